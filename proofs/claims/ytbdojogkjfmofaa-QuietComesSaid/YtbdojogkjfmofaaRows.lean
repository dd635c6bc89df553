/-
  No cell of these rows narrows 'for every input' (looked for: loops, veiled, ifaces, maps, wideKeys, modest, calm, conditions, laid).
  DERIVED. THE GIVEN ROWS OF THIS SEAT. 5 by the template 'for every input the law returns true; each argument reads behind the call as it read before'; 0 by the template 'total and deterministic' (their statements: YtbdojogkjfmofaaTotals.lean).
  GIVEN WITH THE SEED: the statements are not yours to turn. If you find one false, say at which input.
  Laid BY PROGRAM, IN A SANDBOX (cutbox-rows.mjs): the forced cells as the released guide's own fill.sh prints them over the translation bdeae53e6f73c69f… (all of the seat's roots in one cut). By AI agents, Wed Nov 11 2026. No macro, syntax, notation, axiom, sorry.
-/
import Derived.Test.YtbdojogkjfmofaaChecked
import GoSem.Claim
import GoSem.ClaimJoined
import GoSem.ClaimMapViews
import Derived.JoinedTies
import Derived.KernelRfl
namespace Go.Proofs.Ytbdojogkjfmofaa
/- THE CELL 'sum', in the pinned program and in every row, IS THE sha256 OF THE DUMP (.gsa) THAT YtbdojogkjfmofaaProg.lean LOADS. Nothing in Lean hashes anything: it is a label: what it is worth is what the hold of that sum in a sandbox is worth. -/
noncomputable def Try.pinned : Pinned := { name := "ytbdojogkjfmofaa", sum := "bdeae53e6f73c69f02d0b7b08b04d548bbd15059346ef5404d97ee0592f24cb3", checked := Try.checked }
namespace Rows
def none {H : Type} : Left H := { results := [], args := [] }

/-- 'avowallaw24.QuietSafe': WHATEVER THE INPUT: true; the input reads as it did. -/
def quietSafeSpec : ChangeSpec := { name := "quietSafe", fn := fun _ => fun
  | [d] => { results := [.lit (.bool true)], args := [d] }
  | _ => none }
def quietSafeRow : OpenClaim := { program := "ytbdojogkjfmofaa", sum := "bdeae53e6f73c69f02d0b7b08b04d548bbd15059346ef5404d97ee0592f24cb3", func := "avowal/avowallaw24.QuietSafe", spec := "quietSafe", apart := false }
def QuietSafeSaid : Prop := quietSafeRow.holds Try.pinned (OpenSpec.ofChange quietSafeSpec)

/-- ITS FALSE NEIGHBOUR: 'it returns false'. Refute it at one input. -/
def quietSafeWrong : ChangeSpec := { name := "quietSafe", fn := fun _ => fun
  | [d] => { results := [.lit (.bool false)], args := [d] }
  | _ => none }
def QuietSafeWrongFalsely : Prop := quietSafeRow.holds Try.pinned (OpenSpec.ofChange quietSafeWrong)

/-- 'avowallaw24.QuietComes': WHATEVER THE INPUT: true; the input reads as it did. -/
def quietComesSpec : ChangeSpec := { name := "quietComes", fn := fun _ => fun
  | [d] => { results := [.lit (.bool true)], args := [d] }
  | _ => none }
def quietComesRow : OpenClaim := { program := "ytbdojogkjfmofaa", sum := "bdeae53e6f73c69f02d0b7b08b04d548bbd15059346ef5404d97ee0592f24cb3", func := "avowal/avowallaw24.QuietComes", spec := "quietComes", apart := false }
def QuietComesSaid : Prop := quietComesRow.holds Try.pinned (OpenSpec.ofChange quietComesSpec)

/-- ITS FALSE NEIGHBOUR: 'it returns false'. Refute it at one input. -/
def quietComesWrong : ChangeSpec := { name := "quietComes", fn := fun _ => fun
  | [d] => { results := [.lit (.bool false)], args := [d] }
  | _ => none }
def QuietComesWrongFalsely : Prop := quietComesRow.holds Try.pinned (OpenSpec.ofChange quietComesWrong)

/-- 'avowallaw24.QuietDoes': WHATEVER THE INPUT: true; the input reads as it did. -/
def quietDoesSpec : ChangeSpec := { name := "quietDoes", fn := fun _ => fun
  | [d1, d2] => { results := [.lit (.bool true)], args := [d1, d2] }
  | _ => none }
def quietDoesRow : OpenClaim := { program := "ytbdojogkjfmofaa", sum := "bdeae53e6f73c69f02d0b7b08b04d548bbd15059346ef5404d97ee0592f24cb3", func := "avowal/avowallaw24.QuietDoes", spec := "quietDoes", apart := false }
def QuietDoesSaid : Prop := quietDoesRow.holds Try.pinned (OpenSpec.ofChange quietDoesSpec)

/-- ITS FALSE NEIGHBOUR: 'it returns false'. Refute it at one input. -/
def quietDoesWrong : ChangeSpec := { name := "quietDoes", fn := fun _ => fun
  | [d1, d2] => { results := [.lit (.bool false)], args := [d1, d2] }
  | _ => none }
def QuietDoesWrongFalsely : Prop := quietDoesRow.holds Try.pinned (OpenSpec.ofChange quietDoesWrong)

/-- 'avowallaw24.QuietAgain': WHATEVER THE INPUT: true; the input reads as it did. -/
def quietAgainSpec : ChangeSpec := { name := "quietAgain", fn := fun _ => fun
  | [d1, d2, d3] => { results := [.lit (.bool true)], args := [d1, d2, d3] }
  | _ => none }
def quietAgainRow : OpenClaim := { program := "ytbdojogkjfmofaa", sum := "bdeae53e6f73c69f02d0b7b08b04d548bbd15059346ef5404d97ee0592f24cb3", func := "avowal/avowallaw24.QuietAgain", spec := "quietAgain", apart := false }
def QuietAgainSaid : Prop := quietAgainRow.holds Try.pinned (OpenSpec.ofChange quietAgainSpec)

/-- ITS FALSE NEIGHBOUR: 'it returns false'. Refute it at one input. -/
def quietAgainWrong : ChangeSpec := { name := "quietAgain", fn := fun _ => fun
  | [d1, d2, d3] => { results := [.lit (.bool false)], args := [d1, d2, d3] }
  | _ => none }
def QuietAgainWrongFalsely : Prop := quietAgainRow.holds Try.pinned (OpenSpec.ofChange quietAgainWrong)

/-- 'avowallaw24.QuietNone': WHATEVER THE INPUT: true; the input reads as it did. -/
def quietNoneSpec : ChangeSpec := { name := "quietNone", fn := fun _ => fun
  | [d] => { results := [.lit (.bool true)], args := [d] }
  | _ => none }
def quietNoneRow : OpenClaim := { program := "ytbdojogkjfmofaa", sum := "bdeae53e6f73c69f02d0b7b08b04d548bbd15059346ef5404d97ee0592f24cb3", func := "avowal/avowallaw24.QuietNone", spec := "quietNone", apart := false }
def QuietNoneSaid : Prop := quietNoneRow.holds Try.pinned (OpenSpec.ofChange quietNoneSpec)

/-- ITS FALSE NEIGHBOUR: 'it returns false'. Refute it at one input. -/
def quietNoneWrong : ChangeSpec := { name := "quietNone", fn := fun _ => fun
  | [d] => { results := [.lit (.bool false)], args := [d] }
  | _ => none }
def QuietNoneWrongFalsely : Prop := quietNoneRow.holds Try.pinned (OpenSpec.ofChange quietNoneWrong)

/- THE SECOND FORM. 'bulk': how many values and letters a reading holds, each counted each time it is reached (what is shared counts as often as it is met; a slice's spare places count too). A statement '..UptoSaid' is the law's where the arguments, and the package variables that the reading takes, are together of bulk at most 1048576: NARROWER than '..Said'. Prove '..Said' where nothing that the law and all that it calls make is longer than what came in: it says more and counts as full. Else prove '..UptoSaid'. A law counts once. -/
mutual
def uptoBulk {H : Type} : DataW H → Nat
  | .lit (.string bytes) => bytes.length + 1
  | .lit _ => 1
  | .nil => 1
  | .ptr d => uptoBulk d + 1
  | .slice elems spare => uptoBulkAll elems + uptoBulkAll spare + 1
  | .agg parts => uptoBulkAll parts + 1
  | .iface _ d => uptoBulk d + 1
  | .map entries => uptoBulkEntries entries + 1
  | .held _ => 1
def uptoBulkAll {H : Type} : List (DataW H) → Nat
  | [] => 0
  | d :: r => uptoBulk d + uptoBulkAll r
def uptoBulkEntries {H : Type} : List (Lit × DataW H) → Nat
  | [] => 0
  | x :: r => uptoBulkEntry x + uptoBulkEntries r
def uptoBulkEntry {H : Type} : Lit × DataW H → Nat
  | (.string bytes, d) => bytes.length + uptoBulk d + 1
  | (_, d) => uptoBulk d + 1
 end
def uptoSmall : (H : Type) → List (DataW H) → Bool := fun _ ds => decide (uptoBulkAll ds ≤ 1048576)
def OpenSpec.upto (s : _root_.Go.ChangeSpec) : _root_.Go.OpenSpec := { _root_.Go.OpenSpec.ofChange s with cond := some uptoSmall }

/-- 'avowallaw24.QuietSafe', WHERE WHAT IT READS IS OF BULK AT MOST 1048576: true; the input reads as it did. -/
def quietSafeUptoRow : OpenClaim := { program := "ytbdojogkjfmofaa", sum := "bdeae53e6f73c69f02d0b7b08b04d548bbd15059346ef5404d97ee0592f24cb3", func := "avowal/avowallaw24.QuietSafe", spec := "quietSafe", apart := false, narrowed := true }
def QuietSafeUptoSaid : Prop := quietSafeUptoRow.holds Try.pinned (OpenSpec.upto quietSafeSpec)

/-- 'avowallaw24.QuietComes', WHERE WHAT IT READS IS OF BULK AT MOST 1048576: true; the input reads as it did. -/
def quietComesUptoRow : OpenClaim := { program := "ytbdojogkjfmofaa", sum := "bdeae53e6f73c69f02d0b7b08b04d548bbd15059346ef5404d97ee0592f24cb3", func := "avowal/avowallaw24.QuietComes", spec := "quietComes", apart := false, narrowed := true }
def QuietComesUptoSaid : Prop := quietComesUptoRow.holds Try.pinned (OpenSpec.upto quietComesSpec)

/-- 'avowallaw24.QuietDoes', WHERE WHAT IT READS IS OF BULK AT MOST 1048576: true; the input reads as it did. -/
def quietDoesUptoRow : OpenClaim := { program := "ytbdojogkjfmofaa", sum := "bdeae53e6f73c69f02d0b7b08b04d548bbd15059346ef5404d97ee0592f24cb3", func := "avowal/avowallaw24.QuietDoes", spec := "quietDoes", apart := false, narrowed := true }
def QuietDoesUptoSaid : Prop := quietDoesUptoRow.holds Try.pinned (OpenSpec.upto quietDoesSpec)

/-- 'avowallaw24.QuietAgain', WHERE WHAT IT READS IS OF BULK AT MOST 1048576: true; the input reads as it did. -/
def quietAgainUptoRow : OpenClaim := { program := "ytbdojogkjfmofaa", sum := "bdeae53e6f73c69f02d0b7b08b04d548bbd15059346ef5404d97ee0592f24cb3", func := "avowal/avowallaw24.QuietAgain", spec := "quietAgain", apart := false, narrowed := true }
def QuietAgainUptoSaid : Prop := quietAgainUptoRow.holds Try.pinned (OpenSpec.upto quietAgainSpec)

/-- 'avowallaw24.QuietNone', WHERE WHAT IT READS IS OF BULK AT MOST 1048576: true; the input reads as it did. -/
def quietNoneUptoRow : OpenClaim := { program := "ytbdojogkjfmofaa", sum := "bdeae53e6f73c69f02d0b7b08b04d548bbd15059346ef5404d97ee0592f24cb3", func := "avowal/avowallaw24.QuietNone", spec := "quietNone", apart := false, narrowed := true }
def QuietNoneUptoSaid : Prop := quietNoneUptoRow.holds Try.pinned (OpenSpec.upto quietNoneSpec)

end Rows
end Go.Proofs.Ytbdojogkjfmofaa
