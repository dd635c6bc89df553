/-
  No cell of these rows narrows 'for every input' (looked for: loops, veiled, ifaces, maps, wideKeys, modest, calm, conditions, laid).
  DERIVED. THE GIVEN ROWS OF THIS SEAT. 6 by the template 'for every input the law returns true; each argument reads behind the call as it read before'; 0 by the template 'total and deterministic' (their statements: YthdfpankebjleaaGreatTotals.lean).
  GIVEN WITH THE SEED: the statements are not yours to turn. If you find one false, say at which input.
  Laid BY PROGRAM, IN A SANDBOX (cutbox-rows.mjs): the forced cells as the released guide's own fill.sh prints them over the translation 9f9791dac730c69b… (all of the seat's roots in one cut). By AI agents, Wed Nov 11 2026. No macro, syntax, notation, axiom, sorry.
-/
import Derived.Test.YthdfpankebjleaaGreatChecked
import GoSem.Claim
import GoSem.ClaimJoined
import GoSem.ClaimMapViews
import Derived.JoinedTies
import Derived.KernelRfl
namespace Go.Proofs.YthdfpankebjleaaGreat
/- THE CELL 'sum', in the pinned program and in every row, IS THE sha256 OF THE DUMP (.gsa) THAT YthdfpankebjleaaGreatProg.lean LOADS. Nothing in Lean hashes anything: it is a label: what it is worth is what the hold of that sum in a sandbox is worth. -/
noncomputable def Tryz.pinned : Pinned := { name := "ythdfpankebjleaagreat", sum := "9f9791dac730c69b519ffbe6ca5a5ec6070ae72dc488f77d4999798aaf701beb", checked := Tryz.checked }
namespace Rows
def none {H : Type} : Left H := { results := [], args := [] }

/-- 'avowallaw12.ModelTwice': WHATEVER THE INPUT: true; the input reads as it did. -/
def modelTwiceSpec : ChangeSpec := { name := "modelTwice", fn := fun _ => fun
  | [d] => { results := [.lit (.bool true)], args := [d] }
  | _ => none }
def modelTwiceRow : OpenClaim := { program := "ythdfpankebjleaagreat", sum := "9f9791dac730c69b519ffbe6ca5a5ec6070ae72dc488f77d4999798aaf701beb", func := "avowal/avowallaw12.ModelTwice", spec := "modelTwice", unfollowed := true, recurses := true, apart := false }
def ModelTwiceSaid : Prop := modelTwiceRow.holds Tryz.pinned (OpenSpec.ofChange modelTwiceSpec)

/-- ITS FALSE NEIGHBOUR: 'it returns false'. Refute it at one input. -/
def modelTwiceWrong : ChangeSpec := { name := "modelTwice", fn := fun _ => fun
  | [d] => { results := [.lit (.bool false)], args := [d] }
  | _ => none }
def ModelTwiceWrongFalsely : Prop := modelTwiceRow.holds Tryz.pinned (OpenSpec.ofChange modelTwiceWrong)

/-- 'avowallaw12.ModelNames': WHATEVER THE INPUT: true; the input reads as it did. -/
def modelNamesSpec : ChangeSpec := { name := "modelNames", fn := fun _ => fun
  | [d] => { results := [.lit (.bool true)], args := [d] }
  | _ => none }
def modelNamesRow : OpenClaim := { program := "ythdfpankebjleaagreat", sum := "9f9791dac730c69b519ffbe6ca5a5ec6070ae72dc488f77d4999798aaf701beb", func := "avowal/avowallaw12.ModelNames", spec := "modelNames", unfollowed := true, recurses := true, apart := false }
def ModelNamesSaid : Prop := modelNamesRow.holds Tryz.pinned (OpenSpec.ofChange modelNamesSpec)

/-- ITS FALSE NEIGHBOUR: 'it returns false'. Refute it at one input. -/
def modelNamesWrong : ChangeSpec := { name := "modelNames", fn := fun _ => fun
  | [d] => { results := [.lit (.bool false)], args := [d] }
  | _ => none }
def ModelNamesWrongFalsely : Prop := modelNamesRow.holds Tryz.pinned (OpenSpec.ofChange modelNamesWrong)

/-- 'avowallaw12.ModelGrows': WHATEVER THE INPUT: true; the input reads as it did. -/
def modelGrowsSpec : ChangeSpec := { name := "modelGrows", fn := fun _ => fun
  | [d1, d2, d3] => { results := [.lit (.bool true)], args := [d1, d2, d3] }
  | _ => none }
def modelGrowsRow : OpenClaim := { program := "ythdfpankebjleaagreat", sum := "9f9791dac730c69b519ffbe6ca5a5ec6070ae72dc488f77d4999798aaf701beb", func := "avowal/avowallaw12.ModelGrows", spec := "modelGrows", unfollowed := true, recurses := true, apart := false }
def ModelGrowsSaid : Prop := modelGrowsRow.holds Tryz.pinned (OpenSpec.ofChange modelGrowsSpec)

/-- ITS FALSE NEIGHBOUR: 'it returns false'. Refute it at one input. -/
def modelGrowsWrong : ChangeSpec := { name := "modelGrows", fn := fun _ => fun
  | [d1, d2, d3] => { results := [.lit (.bool false)], args := [d1, d2, d3] }
  | _ => none }
def ModelGrowsWrongFalsely : Prop := modelGrowsRow.holds Tryz.pinned (OpenSpec.ofChange modelGrowsWrong)

/-- 'avowallaw12.ModelOnce': WHATEVER THE INPUT: true; the input reads as it did. -/
def modelOnceSpec : ChangeSpec := { name := "modelOnce", fn := fun _ => fun
  | [d] => { results := [.lit (.bool true)], args := [d] }
  | _ => none }
def modelOnceRow : OpenClaim := { program := "ythdfpankebjleaagreat", sum := "9f9791dac730c69b519ffbe6ca5a5ec6070ae72dc488f77d4999798aaf701beb", func := "avowal/avowallaw12.ModelOnce", spec := "modelOnce", unfollowed := true, recurses := true, apart := false }
def ModelOnceSaid : Prop := modelOnceRow.holds Tryz.pinned (OpenSpec.ofChange modelOnceSpec)

/-- ITS FALSE NEIGHBOUR: 'it returns false'. Refute it at one input. -/
def modelOnceWrong : ChangeSpec := { name := "modelOnce", fn := fun _ => fun
  | [d] => { results := [.lit (.bool false)], args := [d] }
  | _ => none }
def ModelOnceWrongFalsely : Prop := modelOnceRow.holds Tryz.pinned (OpenSpec.ofChange modelOnceWrong)

/-- 'avowallaw14.PlanHeads': WHATEVER THE INPUT: true; the input reads as it did. -/
def planHeadsSpec : ChangeSpec := { name := "planHeads", fn := fun _ => fun
  | [d] => { results := [.lit (.bool true)], args := [d] }
  | _ => none }
def planHeadsRow : OpenClaim := { program := "ythdfpankebjleaagreat", sum := "9f9791dac730c69b519ffbe6ca5a5ec6070ae72dc488f77d4999798aaf701beb", func := "avowal/avowallaw14.PlanHeads", spec := "planHeads", unfollowed := true, recurses := true, apart := false }
def PlanHeadsSaid : Prop := planHeadsRow.holds Tryz.pinned (OpenSpec.ofChange planHeadsSpec)

/-- ITS FALSE NEIGHBOUR: 'it returns false'. Refute it at one input. -/
def planHeadsWrong : ChangeSpec := { name := "planHeads", fn := fun _ => fun
  | [d] => { results := [.lit (.bool false)], args := [d] }
  | _ => none }
def PlanHeadsWrongFalsely : Prop := planHeadsRow.holds Tryz.pinned (OpenSpec.ofChange planHeadsWrong)

/-- 'avowallaw12.ModelFixed': WHATEVER THE INPUT: true; the input reads as it did. -/
def modelFixedSpec : ChangeSpec := { name := "modelFixed", fn := fun _ => fun
  | [d1, d2] => { results := [.lit (.bool true)], args := [d1, d2] }
  | _ => none }
def modelFixedRow : OpenClaim := { program := "ythdfpankebjleaagreat", sum := "9f9791dac730c69b519ffbe6ca5a5ec6070ae72dc488f77d4999798aaf701beb", func := "avowal/avowallaw12.ModelFixed", spec := "modelFixed", unfollowed := true, recurses := true, apart := false }
def ModelFixedSaid : Prop := modelFixedRow.holds Tryz.pinned (OpenSpec.ofChange modelFixedSpec)

/-- ITS FALSE NEIGHBOUR: 'it returns false'. Refute it at one input. -/
def modelFixedWrong : ChangeSpec := { name := "modelFixed", fn := fun _ => fun
  | [d1, d2] => { results := [.lit (.bool false)], args := [d1, d2] }
  | _ => none }
def ModelFixedWrongFalsely : Prop := modelFixedRow.holds Tryz.pinned (OpenSpec.ofChange modelFixedWrong)

/- THE SECOND FORM. 'bulk': how many values and letters a reading holds, each counted each time it is reached (what is shared counts as often as it is met; a slice's spare places count too). A statement '..UptoSaid' is the law's where the arguments, and the package variables that the reading takes, are together of bulk at most 1048576: NARROWER than '..Said'. Prove '..Said' where nothing that the law and all that it calls make is longer than what came in: it says more and counts as full. Else prove '..UptoSaid'. A law counts once. -/
mutual
def uptoBulk {H : Type} : DataW H → Nat
  | .lit (.string bytes) => bytes.length + 1
  | .lit _ => 1
  | .nil => 1
  | .ptr d => uptoBulk d + 1
  | .slice elems spare => uptoBulkAll elems + uptoBulkAll spare + 1
  | .agg parts => uptoBulkAll parts + 1
  | .iface _ d => uptoBulk d + 1
  | .map entries => uptoBulkEntries entries + 1
  | .held _ => 1
def uptoBulkAll {H : Type} : List (DataW H) → Nat
  | [] => 0
  | d :: r => uptoBulk d + uptoBulkAll r
def uptoBulkEntries {H : Type} : List (Lit × DataW H) → Nat
  | [] => 0
  | x :: r => uptoBulkEntry x + uptoBulkEntries r
def uptoBulkEntry {H : Type} : Lit × DataW H → Nat
  | (.string bytes, d) => bytes.length + uptoBulk d + 1
  | (_, d) => uptoBulk d + 1
 end
def uptoSmall : (H : Type) → List (DataW H) → Bool := fun _ ds => decide (uptoBulkAll ds ≤ 1048576)
def OpenSpec.upto (s : _root_.Go.ChangeSpec) : _root_.Go.OpenSpec := { _root_.Go.OpenSpec.ofChange s with cond := some uptoSmall }

/-- 'avowallaw12.ModelTwice', WHERE WHAT IT READS IS OF BULK AT MOST 1048576: true; the input reads as it did. -/
def modelTwiceUptoRow : OpenClaim := { program := "ythdfpankebjleaagreat", sum := "9f9791dac730c69b519ffbe6ca5a5ec6070ae72dc488f77d4999798aaf701beb", func := "avowal/avowallaw12.ModelTwice", spec := "modelTwice", unfollowed := true, recurses := true, apart := false, narrowed := true }
def ModelTwiceUptoSaid : Prop := modelTwiceUptoRow.holds Tryz.pinned (OpenSpec.upto modelTwiceSpec)

/-- 'avowallaw12.ModelNames', WHERE WHAT IT READS IS OF BULK AT MOST 1048576: true; the input reads as it did. -/
def modelNamesUptoRow : OpenClaim := { program := "ythdfpankebjleaagreat", sum := "9f9791dac730c69b519ffbe6ca5a5ec6070ae72dc488f77d4999798aaf701beb", func := "avowal/avowallaw12.ModelNames", spec := "modelNames", unfollowed := true, recurses := true, apart := false, narrowed := true }
def ModelNamesUptoSaid : Prop := modelNamesUptoRow.holds Tryz.pinned (OpenSpec.upto modelNamesSpec)

/-- 'avowallaw12.ModelGrows', WHERE WHAT IT READS IS OF BULK AT MOST 1048576: true; the input reads as it did. -/
def modelGrowsUptoRow : OpenClaim := { program := "ythdfpankebjleaagreat", sum := "9f9791dac730c69b519ffbe6ca5a5ec6070ae72dc488f77d4999798aaf701beb", func := "avowal/avowallaw12.ModelGrows", spec := "modelGrows", unfollowed := true, recurses := true, apart := false, narrowed := true }
def ModelGrowsUptoSaid : Prop := modelGrowsUptoRow.holds Tryz.pinned (OpenSpec.upto modelGrowsSpec)

/-- 'avowallaw12.ModelOnce', WHERE WHAT IT READS IS OF BULK AT MOST 1048576: true; the input reads as it did. -/
def modelOnceUptoRow : OpenClaim := { program := "ythdfpankebjleaagreat", sum := "9f9791dac730c69b519ffbe6ca5a5ec6070ae72dc488f77d4999798aaf701beb", func := "avowal/avowallaw12.ModelOnce", spec := "modelOnce", unfollowed := true, recurses := true, apart := false, narrowed := true }
def ModelOnceUptoSaid : Prop := modelOnceUptoRow.holds Tryz.pinned (OpenSpec.upto modelOnceSpec)

/-- 'avowallaw14.PlanHeads', WHERE WHAT IT READS IS OF BULK AT MOST 1048576: true; the input reads as it did. -/
def planHeadsUptoRow : OpenClaim := { program := "ythdfpankebjleaagreat", sum := "9f9791dac730c69b519ffbe6ca5a5ec6070ae72dc488f77d4999798aaf701beb", func := "avowal/avowallaw14.PlanHeads", spec := "planHeads", unfollowed := true, recurses := true, apart := false, narrowed := true }
def PlanHeadsUptoSaid : Prop := planHeadsUptoRow.holds Tryz.pinned (OpenSpec.upto planHeadsSpec)

/-- 'avowallaw12.ModelFixed', WHERE WHAT IT READS IS OF BULK AT MOST 1048576: true; the input reads as it did. -/
def modelFixedUptoRow : OpenClaim := { program := "ythdfpankebjleaagreat", sum := "9f9791dac730c69b519ffbe6ca5a5ec6070ae72dc488f77d4999798aaf701beb", func := "avowal/avowallaw12.ModelFixed", spec := "modelFixed", unfollowed := true, recurses := true, apart := false, narrowed := true }
def ModelFixedUptoSaid : Prop := modelFixedUptoRow.holds Tryz.pinned (OpenSpec.upto modelFixedSpec)

end Rows
end Go.Proofs.YthdfpankebjleaaGreat
