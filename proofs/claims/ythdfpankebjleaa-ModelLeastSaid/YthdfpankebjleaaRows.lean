/-
  No cell of these rows narrows 'for every input' (looked for: loops, veiled, ifaces, maps, wideKeys, modest, calm, conditions, laid).
  DERIVED. THE GIVEN ROWS OF THIS SEAT. 5 by the template 'for every input the law returns true; each argument reads behind the call as it read before'; 0 by the template 'total and deterministic' (their statements: YthdfpankebjleaaTotals.lean).
  GIVEN WITH THE SEED: the statements are not yours to turn. If you find one false, say at which input.
  Laid BY PROGRAM, IN A SANDBOX (cutbox-rows.mjs): the forced cells as the released guide's own fill.sh prints them over the translation 94ef554b77527fdc… (all of the seat's roots in one cut). By AI agents, Wed Nov 11 2026. No macro, syntax, notation, axiom, sorry.
-/
import Derived.Test.YthdfpankebjleaaChecked
import GoSem.Claim
import GoSem.ClaimJoined
import GoSem.ClaimMapViews
import Derived.JoinedTies
import Derived.KernelRfl
namespace Go.Proofs.Ythdfpankebjleaa
/- THE CELL 'sum', in the pinned program and in every row, IS THE sha256 OF THE DUMP (.gsa) THAT YthdfpankebjleaaProg.lean LOADS. Nothing in Lean hashes anything: it is a label: what it is worth is what the hold of that sum in a sandbox is worth. -/
noncomputable def Try.pinned : Pinned := { name := "ythdfpankebjleaa", sum := "94ef554b77527fdca321ae3729328ad574fe939f63bd1f0e4c1a2a0b45bdf6b5", checked := Try.checked }
namespace Rows
def none {H : Type} : Left H := { results := [], args := [] }

/-- 'avowallaw14.PlanOrders': WHATEVER THE INPUT: true; the input reads as it did. -/
def planOrdersSpec : ChangeSpec := { name := "planOrders", fn := fun _ => fun
  | [d1, d2] => { results := [.lit (.bool true)], args := [d1, d2] }
  | _ => none }
def planOrdersRow : OpenClaim := { program := "ythdfpankebjleaa", sum := "94ef554b77527fdca321ae3729328ad574fe939f63bd1f0e4c1a2a0b45bdf6b5", func := "avowal/avowallaw14.PlanOrders", spec := "planOrders", unfollowed := true, recurses := true, apart := false }
def PlanOrdersSaid : Prop := planOrdersRow.holds Try.pinned (OpenSpec.ofChange planOrdersSpec)

/-- ITS FALSE NEIGHBOUR: 'it returns false'. Refute it at one input. -/
def planOrdersWrong : ChangeSpec := { name := "planOrders", fn := fun _ => fun
  | [d1, d2] => { results := [.lit (.bool false)], args := [d1, d2] }
  | _ => none }
def PlanOrdersWrongFalsely : Prop := planOrdersRow.holds Try.pinned (OpenSpec.ofChange planOrdersWrong)

/-- 'avowallaw14.PlanPerms': WHATEVER THE INPUT: true; the input reads as it did. -/
def planPermsSpec : ChangeSpec := { name := "planPerms", fn := fun _ => fun
  | [d1, d2] => { results := [.lit (.bool true)], args := [d1, d2] }
  | _ => none }
def planPermsRow : OpenClaim := { program := "ythdfpankebjleaa", sum := "94ef554b77527fdca321ae3729328ad574fe939f63bd1f0e4c1a2a0b45bdf6b5", func := "avowal/avowallaw14.PlanPerms", spec := "planPerms", unfollowed := true, recurses := true, apart := false }
def PlanPermsSaid : Prop := planPermsRow.holds Try.pinned (OpenSpec.ofChange planPermsSpec)

/-- ITS FALSE NEIGHBOUR: 'it returns false'. Refute it at one input. -/
def planPermsWrong : ChangeSpec := { name := "planPerms", fn := fun _ => fun
  | [d1, d2] => { results := [.lit (.bool false)], args := [d1, d2] }
  | _ => none }
def PlanPermsWrongFalsely : Prop := planPermsRow.holds Try.pinned (OpenSpec.ofChange planPermsWrong)

/-- 'avowallaw14.PlanBodies': WHATEVER THE INPUT: true; the input reads as it did. -/
def planBodiesSpec : ChangeSpec := { name := "planBodies", fn := fun _ => fun
  | [d] => { results := [.lit (.bool true)], args := [d] }
  | _ => none }
def planBodiesRow : OpenClaim := { program := "ythdfpankebjleaa", sum := "94ef554b77527fdca321ae3729328ad574fe939f63bd1f0e4c1a2a0b45bdf6b5", func := "avowal/avowallaw14.PlanBodies", spec := "planBodies", unfollowed := true, recurses := true, apart := false }
def PlanBodiesSaid : Prop := planBodiesRow.holds Try.pinned (OpenSpec.ofChange planBodiesSpec)

/-- ITS FALSE NEIGHBOUR: 'it returns false'. Refute it at one input. -/
def planBodiesWrong : ChangeSpec := { name := "planBodies", fn := fun _ => fun
  | [d] => { results := [.lit (.bool false)], args := [d] }
  | _ => none }
def PlanBodiesWrongFalsely : Prop := planBodiesRow.holds Try.pinned (OpenSpec.ofChange planBodiesWrong)

/-- 'avowallaw14.PlanMore': WHATEVER THE INPUT: true; the input reads as it did. -/
def planMoreSpec : ChangeSpec := { name := "planMore", fn := fun _ => fun
  | [d] => { results := [.lit (.bool true)], args := [d] }
  | _ => none }
def planMoreRow : OpenClaim := { program := "ythdfpankebjleaa", sum := "94ef554b77527fdca321ae3729328ad574fe939f63bd1f0e4c1a2a0b45bdf6b5", func := "avowal/avowallaw14.PlanMore", spec := "planMore", unfollowed := true, recurses := true, apart := false }
def PlanMoreSaid : Prop := planMoreRow.holds Try.pinned (OpenSpec.ofChange planMoreSpec)

/-- ITS FALSE NEIGHBOUR: 'it returns false'. Refute it at one input. -/
def planMoreWrong : ChangeSpec := { name := "planMore", fn := fun _ => fun
  | [d] => { results := [.lit (.bool false)], args := [d] }
  | _ => none }
def PlanMoreWrongFalsely : Prop := planMoreRow.holds Try.pinned (OpenSpec.ofChange planMoreWrong)

/-- 'avowallaw12.ModelLeast': WHATEVER THE INPUT: true; the input reads as it did. -/
def modelLeastSpec : ChangeSpec := { name := "modelLeast", fn := fun _ => fun
  | [d] => { results := [.lit (.bool true)], args := [d] }
  | _ => none }
def modelLeastRow : OpenClaim := { program := "ythdfpankebjleaa", sum := "94ef554b77527fdca321ae3729328ad574fe939f63bd1f0e4c1a2a0b45bdf6b5", func := "avowal/avowallaw12.ModelLeast", spec := "modelLeast", unfollowed := true, recurses := true, apart := false }
def ModelLeastSaid : Prop := modelLeastRow.holds Try.pinned (OpenSpec.ofChange modelLeastSpec)

/-- ITS FALSE NEIGHBOUR: 'it returns false'. Refute it at one input. -/
def modelLeastWrong : ChangeSpec := { name := "modelLeast", fn := fun _ => fun
  | [d] => { results := [.lit (.bool false)], args := [d] }
  | _ => none }
def ModelLeastWrongFalsely : Prop := modelLeastRow.holds Try.pinned (OpenSpec.ofChange modelLeastWrong)

/- THE SECOND FORM. 'bulk': how many values and letters a reading holds, each counted each time it is reached (what is shared counts as often as it is met; a slice's spare places count too). A statement '..UptoSaid' is the law's where the arguments, and the package variables that the reading takes, are together of bulk at most 1048576: NARROWER than '..Said'. Prove '..Said' where nothing that the law and all that it calls make is longer than what came in: it says more and counts as full. Else prove '..UptoSaid'. A law counts once. -/
mutual
def uptoBulk {H : Type} : DataW H → Nat
  | .lit (.string bytes) => bytes.length + 1
  | .lit _ => 1
  | .nil => 1
  | .ptr d => uptoBulk d + 1
  | .slice elems spare => uptoBulkAll elems + uptoBulkAll spare + 1
  | .agg parts => uptoBulkAll parts + 1
  | .iface _ d => uptoBulk d + 1
  | .map entries => uptoBulkEntries entries + 1
  | .held _ => 1
def uptoBulkAll {H : Type} : List (DataW H) → Nat
  | [] => 0
  | d :: r => uptoBulk d + uptoBulkAll r
def uptoBulkEntries {H : Type} : List (Lit × DataW H) → Nat
  | [] => 0
  | x :: r => uptoBulkEntry x + uptoBulkEntries r
def uptoBulkEntry {H : Type} : Lit × DataW H → Nat
  | (.string bytes, d) => bytes.length + uptoBulk d + 1
  | (_, d) => uptoBulk d + 1
 end
def uptoSmall : (H : Type) → List (DataW H) → Bool := fun _ ds => decide (uptoBulkAll ds ≤ 1048576)
def OpenSpec.upto (s : _root_.Go.ChangeSpec) : _root_.Go.OpenSpec := { _root_.Go.OpenSpec.ofChange s with cond := some uptoSmall }

/-- 'avowallaw14.PlanOrders', WHERE WHAT IT READS IS OF BULK AT MOST 1048576: true; the input reads as it did. -/
def planOrdersUptoRow : OpenClaim := { program := "ythdfpankebjleaa", sum := "94ef554b77527fdca321ae3729328ad574fe939f63bd1f0e4c1a2a0b45bdf6b5", func := "avowal/avowallaw14.PlanOrders", spec := "planOrders", unfollowed := true, recurses := true, apart := false, narrowed := true }
def PlanOrdersUptoSaid : Prop := planOrdersUptoRow.holds Try.pinned (OpenSpec.upto planOrdersSpec)

/-- 'avowallaw14.PlanPerms', WHERE WHAT IT READS IS OF BULK AT MOST 1048576: true; the input reads as it did. -/
def planPermsUptoRow : OpenClaim := { program := "ythdfpankebjleaa", sum := "94ef554b77527fdca321ae3729328ad574fe939f63bd1f0e4c1a2a0b45bdf6b5", func := "avowal/avowallaw14.PlanPerms", spec := "planPerms", unfollowed := true, recurses := true, apart := false, narrowed := true }
def PlanPermsUptoSaid : Prop := planPermsUptoRow.holds Try.pinned (OpenSpec.upto planPermsSpec)

/-- 'avowallaw14.PlanBodies', WHERE WHAT IT READS IS OF BULK AT MOST 1048576: true; the input reads as it did. -/
def planBodiesUptoRow : OpenClaim := { program := "ythdfpankebjleaa", sum := "94ef554b77527fdca321ae3729328ad574fe939f63bd1f0e4c1a2a0b45bdf6b5", func := "avowal/avowallaw14.PlanBodies", spec := "planBodies", unfollowed := true, recurses := true, apart := false, narrowed := true }
def PlanBodiesUptoSaid : Prop := planBodiesUptoRow.holds Try.pinned (OpenSpec.upto planBodiesSpec)

/-- 'avowallaw14.PlanMore', WHERE WHAT IT READS IS OF BULK AT MOST 1048576: true; the input reads as it did. -/
def planMoreUptoRow : OpenClaim := { program := "ythdfpankebjleaa", sum := "94ef554b77527fdca321ae3729328ad574fe939f63bd1f0e4c1a2a0b45bdf6b5", func := "avowal/avowallaw14.PlanMore", spec := "planMore", unfollowed := true, recurses := true, apart := false, narrowed := true }
def PlanMoreUptoSaid : Prop := planMoreUptoRow.holds Try.pinned (OpenSpec.upto planMoreSpec)

/-- 'avowallaw12.ModelLeast', WHERE WHAT IT READS IS OF BULK AT MOST 1048576: true; the input reads as it did. -/
def modelLeastUptoRow : OpenClaim := { program := "ythdfpankebjleaa", sum := "94ef554b77527fdca321ae3729328ad574fe939f63bd1f0e4c1a2a0b45bdf6b5", func := "avowal/avowallaw12.ModelLeast", spec := "modelLeast", unfollowed := true, recurses := true, apart := false, narrowed := true }
def ModelLeastUptoSaid : Prop := modelLeastUptoRow.holds Try.pinned (OpenSpec.upto modelLeastSpec)

end Rows
end Go.Proofs.Ythdfpankebjleaa
