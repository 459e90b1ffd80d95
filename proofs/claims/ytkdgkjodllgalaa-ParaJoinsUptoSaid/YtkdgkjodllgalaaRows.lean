/-
  No cell of these rows narrows 'for every input' (looked for: loops, veiled, ifaces, maps, wideKeys, modest, calm, conditions, laid).
  DERIVED. THE GIVEN ROWS OF THIS SEAT. 11 by the template 'for every input the law returns true; each argument reads behind the call as it read before'; 0 by the template 'total and deterministic' (their statements: YtkdgkjodllgalaaTotals.lean).
  GIVEN WITH THE SEED: the statements are not yours to turn. If you find one false, say at which input.
  Laid BY PROGRAM, IN A SANDBOX (cutbox-rows.mjs): the forced cells as the released guide's own fill.sh prints them over the translation a37c6f0b4b8b999b… (all of the seat's roots in one cut). By AI agents, Wed Nov 11 2026. No macro, syntax, notation, axiom, sorry.
-/
import Derived.Test.YtkdgkjodllgalaaChecked
import GoSem.Claim
import GoSem.ClaimJoined
import GoSem.ClaimMapViews
import Derived.JoinedTies
import Derived.KernelRfl
namespace Go.Proofs.Ytkdgkjodllgalaa
/- THE CELL 'sum', in the pinned program and in every row, IS THE sha256 OF THE DUMP (.gsa) THAT YtkdgkjodllgalaaProg.lean LOADS. Nothing in Lean hashes anything: it is a label: what it is worth is what the hold of that sum in a sandbox is worth. -/
noncomputable def Try.pinned : Pinned := { name := "ytkdgkjodllgalaa", sum := "a37c6f0b4b8b999bb8e202e5d8bd49af9b78d015349f2328d78662bcb6402986", checked := Try.checked }
namespace Rows
def none {H : Type} : Left H := { results := [], args := [] }

/-- 'boustrophedonlaw17.ImplicitLevel': WHATEVER THE INPUT: true; the input reads as it did. -/
def implicitLevelSpec : ChangeSpec := { name := "implicitLevel", fn := fun _ => fun
  | [d1, d2] => { results := [.lit (.bool true)], args := [d1, d2] }
  | _ => none }
def implicitLevelRow : OpenClaim := { program := "ytkdgkjodllgalaa", sum := "a37c6f0b4b8b999bb8e202e5d8bd49af9b78d015349f2328d78662bcb6402986", func := "boustrophedon/boustrophedonlaw17.ImplicitLevel", spec := "implicitLevel", apart := false }
def ImplicitLevelSaid : Prop := implicitLevelRow.holds Try.pinned (OpenSpec.ofChange implicitLevelSpec)

/-- ITS FALSE NEIGHBOUR: 'it returns false'. Refute it at one input. -/
def implicitLevelWrong : ChangeSpec := { name := "implicitLevel", fn := fun _ => fun
  | [d1, d2] => { results := [.lit (.bool false)], args := [d1, d2] }
  | _ => none }
def ImplicitLevelWrongFalsely : Prop := implicitLevelRow.holds Try.pinned (OpenSpec.ofChange implicitLevelWrong)

/-- 'boustrophedonlaw17.ImplicitSides': WHATEVER THE INPUT: true; the input reads as it did. -/
def implicitSidesSpec : ChangeSpec := { name := "implicitSides", fn := fun _ => fun
  | [d1, d2] => { results := [.lit (.bool true)], args := [d1, d2] }
  | _ => none }
def implicitSidesRow : OpenClaim := { program := "ytkdgkjodllgalaa", sum := "a37c6f0b4b8b999bb8e202e5d8bd49af9b78d015349f2328d78662bcb6402986", func := "boustrophedon/boustrophedonlaw17.ImplicitSides", spec := "implicitSides", apart := false }
def ImplicitSidesSaid : Prop := implicitSidesRow.holds Try.pinned (OpenSpec.ofChange implicitSidesSpec)

/-- ITS FALSE NEIGHBOUR: 'it returns false'. Refute it at one input. -/
def implicitSidesWrong : ChangeSpec := { name := "implicitSides", fn := fun _ => fun
  | [d1, d2] => { results := [.lit (.bool false)], args := [d1, d2] }
  | _ => none }
def ImplicitSidesWrongFalsely : Prop := implicitSidesRow.holds Try.pinned (OpenSpec.ofChange implicitSidesWrong)

/-- 'boustrophedonlaw17.ImplicitTwo': WHATEVER THE INPUT: true; the input reads as it did. -/
def implicitTwoSpec : ChangeSpec := { name := "implicitTwo", fn := fun _ => fun
  | [d1, d2] => { results := [.lit (.bool true)], args := [d1, d2] }
  | _ => none }
def implicitTwoRow : OpenClaim := { program := "ytkdgkjodllgalaa", sum := "a37c6f0b4b8b999bb8e202e5d8bd49af9b78d015349f2328d78662bcb6402986", func := "boustrophedon/boustrophedonlaw17.ImplicitTwo", spec := "implicitTwo", apart := false }
def ImplicitTwoSaid : Prop := implicitTwoRow.holds Try.pinned (OpenSpec.ofChange implicitTwoSpec)

/-- ITS FALSE NEIGHBOUR: 'it returns false'. Refute it at one input. -/
def implicitTwoWrong : ChangeSpec := { name := "implicitTwo", fn := fun _ => fun
  | [d1, d2] => { results := [.lit (.bool false)], args := [d1, d2] }
  | _ => none }
def ImplicitTwoWrongFalsely : Prop := implicitTwoRow.holds Try.pinned (OpenSpec.ofChange implicitTwoWrong)

/-- 'boustrophedonlaw08.ParaSplits': WHATEVER THE INPUT: true; the input reads as it did. -/
def paraSplitsSpec : ChangeSpec := { name := "paraSplits", fn := fun _ => fun
  | [d1, d2] => { results := [.lit (.bool true)], args := [d1, d2] }
  | _ => none }
def paraSplitsRow : OpenClaim := { program := "ytkdgkjodllgalaa", sum := "a37c6f0b4b8b999bb8e202e5d8bd49af9b78d015349f2328d78662bcb6402986", func := "boustrophedon/boustrophedonlaw08.ParaSplits", spec := "paraSplits", apart := false }
def ParaSplitsSaid : Prop := paraSplitsRow.holds Try.pinned (OpenSpec.ofChange paraSplitsSpec)

/-- ITS FALSE NEIGHBOUR: 'it returns false'. Refute it at one input. -/
def paraSplitsWrong : ChangeSpec := { name := "paraSplits", fn := fun _ => fun
  | [d1, d2] => { results := [.lit (.bool false)], args := [d1, d2] }
  | _ => none }
def ParaSplitsWrongFalsely : Prop := paraSplitsRow.holds Try.pinned (OpenSpec.ofChange paraSplitsWrong)

/-- 'boustrophedonlaw08.ParaJoins': WHATEVER THE INPUT: true; the input reads as it did. -/
def paraJoinsSpec : ChangeSpec := { name := "paraJoins", fn := fun _ => fun
  | [d1, d2, d3, d4] => { results := [.lit (.bool true)], args := [d1, d2, d3, d4] }
  | _ => none }
def paraJoinsRow : OpenClaim := { program := "ytkdgkjodllgalaa", sum := "a37c6f0b4b8b999bb8e202e5d8bd49af9b78d015349f2328d78662bcb6402986", func := "boustrophedon/boustrophedonlaw08.ParaJoins", spec := "paraJoins", apart := false }
def ParaJoinsSaid : Prop := paraJoinsRow.holds Try.pinned (OpenSpec.ofChange paraJoinsSpec)

/-- ITS FALSE NEIGHBOUR: 'it returns false'. Refute it at one input. -/
def paraJoinsWrong : ChangeSpec := { name := "paraJoins", fn := fun _ => fun
  | [d1, d2, d3, d4] => { results := [.lit (.bool false)], args := [d1, d2, d3, d4] }
  | _ => none }
def ParaJoinsWrongFalsely : Prop := paraJoinsRow.holds Try.pinned (OpenSpec.ofChange paraJoinsWrong)

/-- 'boustrophedonlaw08.ParaShort': WHATEVER THE INPUT: true; the input reads as it did. -/
def paraShortSpec : ChangeSpec := { name := "paraShort", fn := fun _ => fun
  | [d1, d2] => { results := [.lit (.bool true)], args := [d1, d2] }
  | _ => none }
def paraShortRow : OpenClaim := { program := "ytkdgkjodllgalaa", sum := "a37c6f0b4b8b999bb8e202e5d8bd49af9b78d015349f2328d78662bcb6402986", func := "boustrophedon/boustrophedonlaw08.ParaShort", spec := "paraShort", apart := false }
def ParaShortSaid : Prop := paraShortRow.holds Try.pinned (OpenSpec.ofChange paraShortSpec)

/-- ITS FALSE NEIGHBOUR: 'it returns false'. Refute it at one input. -/
def paraShortWrong : ChangeSpec := { name := "paraShort", fn := fun _ => fun
  | [d1, d2] => { results := [.lit (.bool false)], args := [d1, d2] }
  | _ => none }
def ParaShortWrongFalsely : Prop := paraShortRow.holds Try.pinned (OpenSpec.ofChange paraShortWrong)

/-- 'boustrophedonlaw08.ParaCount': WHATEVER THE INPUT: true; the input reads as it did. -/
def paraCountSpec : ChangeSpec := { name := "paraCount", fn := fun _ => fun
  | [d] => { results := [.lit (.bool true)], args := [d] }
  | _ => none }
def paraCountRow : OpenClaim := { program := "ytkdgkjodllgalaa", sum := "a37c6f0b4b8b999bb8e202e5d8bd49af9b78d015349f2328d78662bcb6402986", func := "boustrophedon/boustrophedonlaw08.ParaCount", spec := "paraCount", apart := false }
def ParaCountSaid : Prop := paraCountRow.holds Try.pinned (OpenSpec.ofChange paraCountSpec)

/-- ITS FALSE NEIGHBOUR: 'it returns false'. Refute it at one input. -/
def paraCountWrong : ChangeSpec := { name := "paraCount", fn := fun _ => fun
  | [d] => { results := [.lit (.bool false)], args := [d] }
  | _ => none }
def ParaCountWrongFalsely : Prop := paraCountRow.holds Try.pinned (OpenSpec.ofChange paraCountWrong)

/-- 'boustrophedonlaw05.MirrorPairs': WHATEVER THE INPUT: true; the input reads as it did. -/
def mirrorPairsSpec : ChangeSpec := { name := "mirrorPairs", fn := fun _ => fun
  | [d] => { results := [.lit (.bool true)], args := [d] }
  | _ => none }
def mirrorPairsRow : OpenClaim := { program := "ytkdgkjodllgalaa", sum := "a37c6f0b4b8b999bb8e202e5d8bd49af9b78d015349f2328d78662bcb6402986", func := "boustrophedon/boustrophedonlaw05.MirrorPairs", spec := "mirrorPairs", apart := false }
def MirrorPairsSaid : Prop := mirrorPairsRow.holds Try.pinned (OpenSpec.ofChange mirrorPairsSpec)

/-- ITS FALSE NEIGHBOUR: 'it returns false'. Refute it at one input. -/
def mirrorPairsWrong : ChangeSpec := { name := "mirrorPairs", fn := fun _ => fun
  | [d] => { results := [.lit (.bool false)], args := [d] }
  | _ => none }
def MirrorPairsWrongFalsely : Prop := mirrorPairsRow.holds Try.pinned (OpenSpec.ofChange mirrorPairsWrong)

/-- 'boustrophedonlaw05.MirrorOf': WHATEVER THE INPUT: true; the input reads as it did. -/
def mirrorOfSpec : ChangeSpec := { name := "mirrorOf", fn := fun _ => fun
  | [d] => { results := [.lit (.bool true)], args := [d] }
  | _ => none }
def mirrorOfRow : OpenClaim := { program := "ytkdgkjodllgalaa", sum := "a37c6f0b4b8b999bb8e202e5d8bd49af9b78d015349f2328d78662bcb6402986", func := "boustrophedon/boustrophedonlaw05.MirrorOf", spec := "mirrorOf", apart := false }
def MirrorOfSaid : Prop := mirrorOfRow.holds Try.pinned (OpenSpec.ofChange mirrorOfSpec)

/-- ITS FALSE NEIGHBOUR: 'it returns false'. Refute it at one input. -/
def mirrorOfWrong : ChangeSpec := { name := "mirrorOf", fn := fun _ => fun
  | [d] => { results := [.lit (.bool false)], args := [d] }
  | _ => none }
def MirrorOfWrongFalsely : Prop := mirrorOfRow.holds Try.pinned (OpenSpec.ofChange mirrorOfWrong)

/-- 'boustrophedonlaw05.MirrorTwice': WHATEVER THE INPUT: true; the input reads as it did. -/
def mirrorTwiceSpec : ChangeSpec := { name := "mirrorTwice", fn := fun _ => fun
  | [d1, d2] => { results := [.lit (.bool true)], args := [d1, d2] }
  | _ => none }
def mirrorTwiceRow : OpenClaim := { program := "ytkdgkjodllgalaa", sum := "a37c6f0b4b8b999bb8e202e5d8bd49af9b78d015349f2328d78662bcb6402986", func := "boustrophedon/boustrophedonlaw05.MirrorTwice", spec := "mirrorTwice", apart := false }
def MirrorTwiceSaid : Prop := mirrorTwiceRow.holds Try.pinned (OpenSpec.ofChange mirrorTwiceSpec)

/-- ITS FALSE NEIGHBOUR: 'it returns false'. Refute it at one input. -/
def mirrorTwiceWrong : ChangeSpec := { name := "mirrorTwice", fn := fun _ => fun
  | [d1, d2] => { results := [.lit (.bool false)], args := [d1, d2] }
  | _ => none }
def MirrorTwiceWrongFalsely : Prop := mirrorTwiceRow.holds Try.pinned (OpenSpec.ofChange mirrorTwiceWrong)

/-- 'boustrophedonlaw05.MirrorBrackets': WHATEVER THE INPUT: true; the input reads as it did. -/
def mirrorBracketsSpec : ChangeSpec := { name := "mirrorBrackets", fn := fun _ => fun
  | [d] => { results := [.lit (.bool true)], args := [d] }
  | _ => none }
def mirrorBracketsRow : OpenClaim := { program := "ytkdgkjodllgalaa", sum := "a37c6f0b4b8b999bb8e202e5d8bd49af9b78d015349f2328d78662bcb6402986", func := "boustrophedon/boustrophedonlaw05.MirrorBrackets", spec := "mirrorBrackets", apart := false }
def MirrorBracketsSaid : Prop := mirrorBracketsRow.holds Try.pinned (OpenSpec.ofChange mirrorBracketsSpec)

/-- ITS FALSE NEIGHBOUR: 'it returns false'. Refute it at one input. -/
def mirrorBracketsWrong : ChangeSpec := { name := "mirrorBrackets", fn := fun _ => fun
  | [d] => { results := [.lit (.bool false)], args := [d] }
  | _ => none }
def MirrorBracketsWrongFalsely : Prop := mirrorBracketsRow.holds Try.pinned (OpenSpec.ofChange mirrorBracketsWrong)

/- THE SECOND FORM. 'bulk': how many values and letters a reading holds, each counted each time it is reached (what is shared counts as often as it is met; a slice's spare places count too). A statement '..UptoSaid' is the law's where the arguments, and the package variables that the reading takes, are together of bulk at most 1048576: NARROWER than '..Said'. Prove '..Said' where nothing that the law and all that it calls make is longer than what came in: it says more and counts as full. Else prove '..UptoSaid'. A law counts once. -/
mutual
def uptoBulk {H : Type} : DataW H → Nat
  | .lit (.string bytes) => bytes.length + 1
  | .lit _ => 1
  | .nil => 1
  | .ptr d => uptoBulk d + 1
  | .slice elems spare => uptoBulkAll elems + uptoBulkAll spare + 1
  | .agg parts => uptoBulkAll parts + 1
  | .iface _ d => uptoBulk d + 1
  | .map entries => uptoBulkEntries entries + 1
  | .held _ => 1
def uptoBulkAll {H : Type} : List (DataW H) → Nat
  | [] => 0
  | d :: r => uptoBulk d + uptoBulkAll r
def uptoBulkEntries {H : Type} : List (Lit × DataW H) → Nat
  | [] => 0
  | x :: r => uptoBulkEntry x + uptoBulkEntries r
def uptoBulkEntry {H : Type} : Lit × DataW H → Nat
  | (.string bytes, d) => bytes.length + uptoBulk d + 1
  | (_, d) => uptoBulk d + 1
 end
def uptoSmall : (H : Type) → List (DataW H) → Bool := fun _ ds => decide (uptoBulkAll ds ≤ 1048576)
def OpenSpec.upto (s : _root_.Go.ChangeSpec) : _root_.Go.OpenSpec := { _root_.Go.OpenSpec.ofChange s with cond := some uptoSmall }

/-- 'boustrophedonlaw17.ImplicitLevel', WHERE WHAT IT READS IS OF BULK AT MOST 1048576: true; the input reads as it did. -/
def implicitLevelUptoRow : OpenClaim := { program := "ytkdgkjodllgalaa", sum := "a37c6f0b4b8b999bb8e202e5d8bd49af9b78d015349f2328d78662bcb6402986", func := "boustrophedon/boustrophedonlaw17.ImplicitLevel", spec := "implicitLevel", apart := false, narrowed := true }
def ImplicitLevelUptoSaid : Prop := implicitLevelUptoRow.holds Try.pinned (OpenSpec.upto implicitLevelSpec)

/-- 'boustrophedonlaw17.ImplicitSides', WHERE WHAT IT READS IS OF BULK AT MOST 1048576: true; the input reads as it did. -/
def implicitSidesUptoRow : OpenClaim := { program := "ytkdgkjodllgalaa", sum := "a37c6f0b4b8b999bb8e202e5d8bd49af9b78d015349f2328d78662bcb6402986", func := "boustrophedon/boustrophedonlaw17.ImplicitSides", spec := "implicitSides", apart := false, narrowed := true }
def ImplicitSidesUptoSaid : Prop := implicitSidesUptoRow.holds Try.pinned (OpenSpec.upto implicitSidesSpec)

/-- 'boustrophedonlaw17.ImplicitTwo', WHERE WHAT IT READS IS OF BULK AT MOST 1048576: true; the input reads as it did. -/
def implicitTwoUptoRow : OpenClaim := { program := "ytkdgkjodllgalaa", sum := "a37c6f0b4b8b999bb8e202e5d8bd49af9b78d015349f2328d78662bcb6402986", func := "boustrophedon/boustrophedonlaw17.ImplicitTwo", spec := "implicitTwo", apart := false, narrowed := true }
def ImplicitTwoUptoSaid : Prop := implicitTwoUptoRow.holds Try.pinned (OpenSpec.upto implicitTwoSpec)

/-- 'boustrophedonlaw08.ParaSplits', WHERE WHAT IT READS IS OF BULK AT MOST 1048576: true; the input reads as it did. -/
def paraSplitsUptoRow : OpenClaim := { program := "ytkdgkjodllgalaa", sum := "a37c6f0b4b8b999bb8e202e5d8bd49af9b78d015349f2328d78662bcb6402986", func := "boustrophedon/boustrophedonlaw08.ParaSplits", spec := "paraSplits", apart := false, narrowed := true }
def ParaSplitsUptoSaid : Prop := paraSplitsUptoRow.holds Try.pinned (OpenSpec.upto paraSplitsSpec)

/-- 'boustrophedonlaw08.ParaJoins', WHERE WHAT IT READS IS OF BULK AT MOST 1048576: true; the input reads as it did. -/
def paraJoinsUptoRow : OpenClaim := { program := "ytkdgkjodllgalaa", sum := "a37c6f0b4b8b999bb8e202e5d8bd49af9b78d015349f2328d78662bcb6402986", func := "boustrophedon/boustrophedonlaw08.ParaJoins", spec := "paraJoins", apart := false, narrowed := true }
def ParaJoinsUptoSaid : Prop := paraJoinsUptoRow.holds Try.pinned (OpenSpec.upto paraJoinsSpec)

/-- 'boustrophedonlaw08.ParaShort', WHERE WHAT IT READS IS OF BULK AT MOST 1048576: true; the input reads as it did. -/
def paraShortUptoRow : OpenClaim := { program := "ytkdgkjodllgalaa", sum := "a37c6f0b4b8b999bb8e202e5d8bd49af9b78d015349f2328d78662bcb6402986", func := "boustrophedon/boustrophedonlaw08.ParaShort", spec := "paraShort", apart := false, narrowed := true }
def ParaShortUptoSaid : Prop := paraShortUptoRow.holds Try.pinned (OpenSpec.upto paraShortSpec)

/-- 'boustrophedonlaw08.ParaCount', WHERE WHAT IT READS IS OF BULK AT MOST 1048576: true; the input reads as it did. -/
def paraCountUptoRow : OpenClaim := { program := "ytkdgkjodllgalaa", sum := "a37c6f0b4b8b999bb8e202e5d8bd49af9b78d015349f2328d78662bcb6402986", func := "boustrophedon/boustrophedonlaw08.ParaCount", spec := "paraCount", apart := false, narrowed := true }
def ParaCountUptoSaid : Prop := paraCountUptoRow.holds Try.pinned (OpenSpec.upto paraCountSpec)

/-- 'boustrophedonlaw05.MirrorPairs', WHERE WHAT IT READS IS OF BULK AT MOST 1048576: true; the input reads as it did. -/
def mirrorPairsUptoRow : OpenClaim := { program := "ytkdgkjodllgalaa", sum := "a37c6f0b4b8b999bb8e202e5d8bd49af9b78d015349f2328d78662bcb6402986", func := "boustrophedon/boustrophedonlaw05.MirrorPairs", spec := "mirrorPairs", apart := false, narrowed := true }
def MirrorPairsUptoSaid : Prop := mirrorPairsUptoRow.holds Try.pinned (OpenSpec.upto mirrorPairsSpec)

/-- 'boustrophedonlaw05.MirrorOf', WHERE WHAT IT READS IS OF BULK AT MOST 1048576: true; the input reads as it did. -/
def mirrorOfUptoRow : OpenClaim := { program := "ytkdgkjodllgalaa", sum := "a37c6f0b4b8b999bb8e202e5d8bd49af9b78d015349f2328d78662bcb6402986", func := "boustrophedon/boustrophedonlaw05.MirrorOf", spec := "mirrorOf", apart := false, narrowed := true }
def MirrorOfUptoSaid : Prop := mirrorOfUptoRow.holds Try.pinned (OpenSpec.upto mirrorOfSpec)

/-- 'boustrophedonlaw05.MirrorTwice', WHERE WHAT IT READS IS OF BULK AT MOST 1048576: true; the input reads as it did. -/
def mirrorTwiceUptoRow : OpenClaim := { program := "ytkdgkjodllgalaa", sum := "a37c6f0b4b8b999bb8e202e5d8bd49af9b78d015349f2328d78662bcb6402986", func := "boustrophedon/boustrophedonlaw05.MirrorTwice", spec := "mirrorTwice", apart := false, narrowed := true }
def MirrorTwiceUptoSaid : Prop := mirrorTwiceUptoRow.holds Try.pinned (OpenSpec.upto mirrorTwiceSpec)

/-- 'boustrophedonlaw05.MirrorBrackets', WHERE WHAT IT READS IS OF BULK AT MOST 1048576: true; the input reads as it did. -/
def mirrorBracketsUptoRow : OpenClaim := { program := "ytkdgkjodllgalaa", sum := "a37c6f0b4b8b999bb8e202e5d8bd49af9b78d015349f2328d78662bcb6402986", func := "boustrophedon/boustrophedonlaw05.MirrorBrackets", spec := "mirrorBrackets", apart := false, narrowed := true }
def MirrorBracketsUptoSaid : Prop := mirrorBracketsUptoRow.holds Try.pinned (OpenSpec.upto mirrorBracketsSpec)

end Rows
end Go.Proofs.Ytkdgkjodllgalaa
