/-
  No cell of these rows narrows 'for every input' (looked for: loops, veiled, ifaces, maps, wideKeys, modest, calm, conditions, laid).
  DERIVED. THE GIVEN ROWS OF THIS SEAT. 6 by the template 'for every input the law returns true; each argument reads behind the call as it read before'; 0 by the template 'total and deterministic' (their statements: YtebmjajdkhhhbaaTotals.lean).
  GIVEN WITH THE SEED: the statements are not yours to turn. If you find one false, say at which input.
  Laid BY PROGRAM, IN A SANDBOX (cutbox-rows.mjs): the forced cells as the released guide's own fill.sh prints them over the translation 64ed96c2527f0adc… (all of the seat's roots in one cut). By AI agents, Wed Nov 11 2026. No macro, syntax, notation, axiom, sorry.
-/
import Derived.Test.YtebmjajdkhhhbaaChecked
import GoSem.Claim
import GoSem.ClaimJoined
import GoSem.ClaimMapViews
import Derived.JoinedTies
import Derived.KernelRfl
namespace Go.Proofs.Ytebmjajdkhhhbaa
/- THE CELL 'sum', in the pinned program and in every row, IS THE sha256 OF THE DUMP (.gsa) THAT YtebmjajdkhhhbaaProg.lean LOADS. Nothing in Lean hashes anything: it is a label: what it is worth is what the hold of that sum in a sandbox is worth. -/
noncomputable def Try.pinned : Pinned := { name := "ytebmjajdkhhhbaa", sum := "64ed96c2527f0adc793bcb45ffe400eb3b4a9a7d0c71ebbd5e9500d8f21ba10a", checked := Try.checked }
namespace Rows
def none {H : Type} : Left H := { results := [], args := [] }

/-- 'avowallaw22.NetArrives': WHATEVER THE INPUT: true; the input reads as it did. -/
def netArrivesSpec : ChangeSpec := { name := "netArrives", fn := fun _ => fun
  | [d1, d2, d3] => { results := [.lit (.bool true)], args := [d1, d2, d3] }
  | _ => none }
def netArrivesRow : OpenClaim := { program := "ytebmjajdkhhhbaa", sum := "64ed96c2527f0adc793bcb45ffe400eb3b4a9a7d0c71ebbd5e9500d8f21ba10a", func := "avowal/avowallaw22.NetArrives", spec := "netArrives", unfollowed := true, recurses := true, apart := false }
def NetArrivesSaid : Prop := netArrivesRow.holds Try.pinned (OpenSpec.ofChange netArrivesSpec)

/-- ITS FALSE NEIGHBOUR: 'it returns false'. Refute it at one input. -/
def netArrivesWrong : ChangeSpec := { name := "netArrives", fn := fun _ => fun
  | [d1, d2, d3] => { results := [.lit (.bool false)], args := [d1, d2, d3] }
  | _ => none }
def NetArrivesWrongFalsely : Prop := netArrivesRow.holds Try.pinned (OpenSpec.ofChange netArrivesWrong)

/-- 'avowallaw22.NetFull': WHATEVER THE INPUT: true; the input reads as it did. -/
def netFullSpec : ChangeSpec := { name := "netFull", fn := fun _ => fun
  | [] => { results := [.lit (.bool true)], args := [] }
  | _ => none }
def netFullRow : OpenClaim := { program := "ytebmjajdkhhhbaa", sum := "64ed96c2527f0adc793bcb45ffe400eb3b4a9a7d0c71ebbd5e9500d8f21ba10a", func := "avowal/avowallaw22.NetFull", spec := "netFull", unfollowed := true, recurses := true, apart := false }
def NetFullSaid : Prop := netFullRow.holds Try.pinned (OpenSpec.ofChange netFullSpec)

/-- ITS FALSE NEIGHBOUR: 'it returns false'. Refute it at one input. -/
def netFullWrong : ChangeSpec := { name := "netFull", fn := fun _ => fun
  | [] => { results := [.lit (.bool false)], args := [] }
  | _ => none }
def NetFullWrongFalsely : Prop := netFullRow.holds Try.pinned (OpenSpec.ofChange netFullWrong)

/-- 'avowallaw22.NetNumbers': WHATEVER THE INPUT: true; the input reads as it did. -/
def netNumbersSpec : ChangeSpec := { name := "netNumbers", fn := fun _ => fun
  | [d] => { results := [.lit (.bool true)], args := [d] }
  | _ => none }
def netNumbersRow : OpenClaim := { program := "ytebmjajdkhhhbaa", sum := "64ed96c2527f0adc793bcb45ffe400eb3b4a9a7d0c71ebbd5e9500d8f21ba10a", func := "avowal/avowallaw22.NetNumbers", spec := "netNumbers", unfollowed := true, recurses := true, apart := false }
def NetNumbersSaid : Prop := netNumbersRow.holds Try.pinned (OpenSpec.ofChange netNumbersSpec)

/-- ITS FALSE NEIGHBOUR: 'it returns false'. Refute it at one input. -/
def netNumbersWrong : ChangeSpec := { name := "netNumbers", fn := fun _ => fun
  | [d] => { results := [.lit (.bool false)], args := [d] }
  | _ => none }
def NetNumbersWrongFalsely : Prop := netNumbersRow.holds Try.pinned (OpenSpec.ofChange netNumbersWrong)

/-- 'avowallaw22.NetStops': WHATEVER THE INPUT: true; the input reads as it did. -/
def netStopsSpec : ChangeSpec := { name := "netStops", fn := fun _ => fun
  | [d1, d2] => { results := [.lit (.bool true)], args := [d1, d2] }
  | _ => none }
def netStopsRow : OpenClaim := { program := "ytebmjajdkhhhbaa", sum := "64ed96c2527f0adc793bcb45ffe400eb3b4a9a7d0c71ebbd5e9500d8f21ba10a", func := "avowal/avowallaw22.NetStops", spec := "netStops", unfollowed := true, recurses := true, apart := false }
def NetStopsSaid : Prop := netStopsRow.holds Try.pinned (OpenSpec.ofChange netStopsSpec)

/-- ITS FALSE NEIGHBOUR: 'it returns false'. Refute it at one input. -/
def netStopsWrong : ChangeSpec := { name := "netStops", fn := fun _ => fun
  | [d1, d2] => { results := [.lit (.bool false)], args := [d1, d2] }
  | _ => none }
def NetStopsWrongFalsely : Prop := netStopsRow.holds Try.pinned (OpenSpec.ofChange netStopsWrong)

/-- 'avowallaw22.NetDoes': WHATEVER THE INPUT: true; the input reads as it did. -/
def netDoesSpec : ChangeSpec := { name := "netDoes", fn := fun _ => fun
  | [d] => { results := [.lit (.bool true)], args := [d] }
  | _ => none }
def netDoesRow : OpenClaim := { program := "ytebmjajdkhhhbaa", sum := "64ed96c2527f0adc793bcb45ffe400eb3b4a9a7d0c71ebbd5e9500d8f21ba10a", func := "avowal/avowallaw22.NetDoes", spec := "netDoes", unfollowed := true, recurses := true, apart := false }
def NetDoesSaid : Prop := netDoesRow.holds Try.pinned (OpenSpec.ofChange netDoesSpec)

/-- ITS FALSE NEIGHBOUR: 'it returns false'. Refute it at one input. -/
def netDoesWrong : ChangeSpec := { name := "netDoes", fn := fun _ => fun
  | [d] => { results := [.lit (.bool false)], args := [d] }
  | _ => none }
def NetDoesWrongFalsely : Prop := netDoesRow.holds Try.pinned (OpenSpec.ofChange netDoesWrong)

/-- 'avowallaw22.NetNone': WHATEVER THE INPUT: true; the input reads as it did. -/
def netNoneSpec : ChangeSpec := { name := "netNone", fn := fun _ => fun
  | [d] => { results := [.lit (.bool true)], args := [d] }
  | _ => none }
def netNoneRow : OpenClaim := { program := "ytebmjajdkhhhbaa", sum := "64ed96c2527f0adc793bcb45ffe400eb3b4a9a7d0c71ebbd5e9500d8f21ba10a", func := "avowal/avowallaw22.NetNone", spec := "netNone", unfollowed := true, recurses := true, apart := false }
def NetNoneSaid : Prop := netNoneRow.holds Try.pinned (OpenSpec.ofChange netNoneSpec)

/-- ITS FALSE NEIGHBOUR: 'it returns false'. Refute it at one input. -/
def netNoneWrong : ChangeSpec := { name := "netNone", fn := fun _ => fun
  | [d] => { results := [.lit (.bool false)], args := [d] }
  | _ => none }
def NetNoneWrongFalsely : Prop := netNoneRow.holds Try.pinned (OpenSpec.ofChange netNoneWrong)

/- THE SECOND FORM. 'bulk': how many values and letters a reading holds, each counted each time it is reached (what is shared counts as often as it is met; a slice's spare places count too). A statement '..UptoSaid' is the law's where the arguments, and the package variables that the reading takes, are together of bulk at most 1048576: NARROWER than '..Said'. Prove '..Said' where nothing that the law and all that it calls make is longer than what came in: it says more and counts as full. Else prove '..UptoSaid'. A law counts once. -/
mutual
def uptoBulk {H : Type} : DataW H → Nat
  | .lit (.string bytes) => bytes.length + 1
  | .lit _ => 1
  | .nil => 1
  | .ptr d => uptoBulk d + 1
  | .slice elems spare => uptoBulkAll elems + uptoBulkAll spare + 1
  | .agg parts => uptoBulkAll parts + 1
  | .iface _ d => uptoBulk d + 1
  | .map entries => uptoBulkEntries entries + 1
  | .held _ => 1
def uptoBulkAll {H : Type} : List (DataW H) → Nat
  | [] => 0
  | d :: r => uptoBulk d + uptoBulkAll r
def uptoBulkEntries {H : Type} : List (Lit × DataW H) → Nat
  | [] => 0
  | x :: r => uptoBulkEntry x + uptoBulkEntries r
def uptoBulkEntry {H : Type} : Lit × DataW H → Nat
  | (.string bytes, d) => bytes.length + uptoBulk d + 1
  | (_, d) => uptoBulk d + 1
 end
def uptoSmall : (H : Type) → List (DataW H) → Bool := fun _ ds => decide (uptoBulkAll ds ≤ 1048576)
def OpenSpec.upto (s : _root_.Go.ChangeSpec) : _root_.Go.OpenSpec := { _root_.Go.OpenSpec.ofChange s with cond := some uptoSmall }

/-- 'avowallaw22.NetArrives', WHERE WHAT IT READS IS OF BULK AT MOST 1048576: true; the input reads as it did. -/
def netArrivesUptoRow : OpenClaim := { program := "ytebmjajdkhhhbaa", sum := "64ed96c2527f0adc793bcb45ffe400eb3b4a9a7d0c71ebbd5e9500d8f21ba10a", func := "avowal/avowallaw22.NetArrives", spec := "netArrives", unfollowed := true, recurses := true, apart := false, narrowed := true }
def NetArrivesUptoSaid : Prop := netArrivesUptoRow.holds Try.pinned (OpenSpec.upto netArrivesSpec)

/-- 'avowallaw22.NetFull', WHERE WHAT IT READS IS OF BULK AT MOST 1048576: true; the input reads as it did. -/
def netFullUptoRow : OpenClaim := { program := "ytebmjajdkhhhbaa", sum := "64ed96c2527f0adc793bcb45ffe400eb3b4a9a7d0c71ebbd5e9500d8f21ba10a", func := "avowal/avowallaw22.NetFull", spec := "netFull", unfollowed := true, recurses := true, apart := false, narrowed := true }
def NetFullUptoSaid : Prop := netFullUptoRow.holds Try.pinned (OpenSpec.upto netFullSpec)

/-- 'avowallaw22.NetNumbers', WHERE WHAT IT READS IS OF BULK AT MOST 1048576: true; the input reads as it did. -/
def netNumbersUptoRow : OpenClaim := { program := "ytebmjajdkhhhbaa", sum := "64ed96c2527f0adc793bcb45ffe400eb3b4a9a7d0c71ebbd5e9500d8f21ba10a", func := "avowal/avowallaw22.NetNumbers", spec := "netNumbers", unfollowed := true, recurses := true, apart := false, narrowed := true }
def NetNumbersUptoSaid : Prop := netNumbersUptoRow.holds Try.pinned (OpenSpec.upto netNumbersSpec)

/-- 'avowallaw22.NetStops', WHERE WHAT IT READS IS OF BULK AT MOST 1048576: true; the input reads as it did. -/
def netStopsUptoRow : OpenClaim := { program := "ytebmjajdkhhhbaa", sum := "64ed96c2527f0adc793bcb45ffe400eb3b4a9a7d0c71ebbd5e9500d8f21ba10a", func := "avowal/avowallaw22.NetStops", spec := "netStops", unfollowed := true, recurses := true, apart := false, narrowed := true }
def NetStopsUptoSaid : Prop := netStopsUptoRow.holds Try.pinned (OpenSpec.upto netStopsSpec)

/-- 'avowallaw22.NetDoes', WHERE WHAT IT READS IS OF BULK AT MOST 1048576: true; the input reads as it did. -/
def netDoesUptoRow : OpenClaim := { program := "ytebmjajdkhhhbaa", sum := "64ed96c2527f0adc793bcb45ffe400eb3b4a9a7d0c71ebbd5e9500d8f21ba10a", func := "avowal/avowallaw22.NetDoes", spec := "netDoes", unfollowed := true, recurses := true, apart := false, narrowed := true }
def NetDoesUptoSaid : Prop := netDoesUptoRow.holds Try.pinned (OpenSpec.upto netDoesSpec)

/-- 'avowallaw22.NetNone', WHERE WHAT IT READS IS OF BULK AT MOST 1048576: true; the input reads as it did. -/
def netNoneUptoRow : OpenClaim := { program := "ytebmjajdkhhhbaa", sum := "64ed96c2527f0adc793bcb45ffe400eb3b4a9a7d0c71ebbd5e9500d8f21ba10a", func := "avowal/avowallaw22.NetNone", spec := "netNone", unfollowed := true, recurses := true, apart := false, narrowed := true }
def NetNoneUptoSaid : Prop := netNoneUptoRow.holds Try.pinned (OpenSpec.upto netNoneSpec)

end Rows
end Go.Proofs.Ytebmjajdkhhhbaa
