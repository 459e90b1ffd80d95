/-
  No cell of these rows narrows 'for every input' (looked for: loops, veiled, ifaces, maps, wideKeys, modest, calm, conditions, laid).
  DERIVED. THE GIVEN ROWS OF THIS SEAT. 20 by the template 'for every input the law returns true; each argument reads behind the call as it read before'; 0 by the template 'total and deterministic' (their statements: YtamfjmonpbojnaaTotals.lean).
  GIVEN WITH THE SEED: the statements are not yours to turn. If you find one false, say at which input.
  Laid BY PROGRAM, IN A SANDBOX (cutbox-rows.mjs): the forced cells as the released guide's own fill.sh prints them over the translation 08fb845d2feabe3c… (all of the seat's roots in one cut). By AI agents, Wed Nov 11 2026. No macro, syntax, notation, axiom, sorry.
-/
import Derived.Test.YtamfjmonpbojnaaChecked
import GoSem.Claim
import GoSem.ClaimJoined
import GoSem.ClaimMapViews
import Derived.JoinedTies
import Derived.KernelRfl
namespace Go.Proofs.Ytamfjmonpbojnaa
/- THE CELL 'sum', in the pinned program and in every row, IS THE sha256 OF THE DUMP (.gsa) THAT YtamfjmonpbojnaaProg.lean LOADS. Nothing in Lean hashes anything: it is a label: what it is worth is what the hold of that sum in a sandbox is worth. -/
noncomputable def Try.pinned : Pinned := { name := "ytamfjmonpbojnaa", sum := "08fb845d2feabe3cbdc0f34c2f8d53af19d195adf85a72248a882171358542bc", checked := Try.checked }
namespace Rows
def none {H : Type} : Left H := { results := [], args := [] }

/-- 'boustrophedonlaw12.RunsCut': WHATEVER THE INPUT: true; the input reads as it did. -/
def runsCutSpec : ChangeSpec := { name := "runsCut", fn := fun _ => fun
  | [d] => { results := [.lit (.bool true)], args := [d] }
  | _ => none }
def runsCutRow : OpenClaim := { program := "ytamfjmonpbojnaa", sum := "08fb845d2feabe3cbdc0f34c2f8d53af19d195adf85a72248a882171358542bc", func := "boustrophedon/boustrophedonlaw12.RunsCut", spec := "runsCut", apart := false }
def RunsCutSaid : Prop := runsCutRow.holds Try.pinned (OpenSpec.ofChange runsCutSpec)

/-- ITS FALSE NEIGHBOUR: 'it returns false'. Refute it at one input. -/
def runsCutWrong : ChangeSpec := { name := "runsCut", fn := fun _ => fun
  | [d] => { results := [.lit (.bool false)], args := [d] }
  | _ => none }
def RunsCutWrongFalsely : Prop := runsCutRow.holds Try.pinned (OpenSpec.ofChange runsCutWrong)

/-- 'boustrophedonlaw12.RunsEven': WHATEVER THE INPUT: true; the input reads as it did. -/
def runsEvenSpec : ChangeSpec := { name := "runsEven", fn := fun _ => fun
  | [d1, d2] => { results := [.lit (.bool true)], args := [d1, d2] }
  | _ => none }
def runsEvenRow : OpenClaim := { program := "ytamfjmonpbojnaa", sum := "08fb845d2feabe3cbdc0f34c2f8d53af19d195adf85a72248a882171358542bc", func := "boustrophedon/boustrophedonlaw12.RunsEven", spec := "runsEven", apart := false }
def RunsEvenSaid : Prop := runsEvenRow.holds Try.pinned (OpenSpec.ofChange runsEvenSpec)

/-- ITS FALSE NEIGHBOUR: 'it returns false'. Refute it at one input. -/
def runsEvenWrong : ChangeSpec := { name := "runsEven", fn := fun _ => fun
  | [d1, d2] => { results := [.lit (.bool false)], args := [d1, d2] }
  | _ => none }
def RunsEvenWrongFalsely : Prop := runsEvenRow.holds Try.pinned (OpenSpec.ofChange runsEvenWrong)

/-- 'boustrophedonlaw12.RunsCount': WHATEVER THE INPUT: true; the input reads as it did. -/
def runsCountSpec : ChangeSpec := { name := "runsCount", fn := fun _ => fun
  | [d] => { results := [.lit (.bool true)], args := [d] }
  | _ => none }
def runsCountRow : OpenClaim := { program := "ytamfjmonpbojnaa", sum := "08fb845d2feabe3cbdc0f34c2f8d53af19d195adf85a72248a882171358542bc", func := "boustrophedon/boustrophedonlaw12.RunsCount", spec := "runsCount", apart := false }
def RunsCountSaid : Prop := runsCountRow.holds Try.pinned (OpenSpec.ofChange runsCountSpec)

/-- ITS FALSE NEIGHBOUR: 'it returns false'. Refute it at one input. -/
def runsCountWrong : ChangeSpec := { name := "runsCount", fn := fun _ => fun
  | [d] => { results := [.lit (.bool false)], args := [d] }
  | _ => none }
def RunsCountWrongFalsely : Prop := runsCountRow.holds Try.pinned (OpenSpec.ofChange runsCountWrong)

/-- 'boustrophedonlaw35.SelectsBands': WHATEVER THE INPUT: true; the input reads as it did. -/
def selectsBandsSpec : ChangeSpec := { name := "selectsBands", fn := fun _ => fun
  | [d1, d2, d3, d4] => { results := [.lit (.bool true)], args := [d1, d2, d3, d4] }
  | _ => none }
def selectsBandsRow : OpenClaim := { program := "ytamfjmonpbojnaa", sum := "08fb845d2feabe3cbdc0f34c2f8d53af19d195adf85a72248a882171358542bc", func := "boustrophedon/boustrophedonlaw35.SelectsBands", spec := "selectsBands", recurses := true, apart := false }
def SelectsBandsSaid : Prop := selectsBandsRow.holds Try.pinned (OpenSpec.ofChange selectsBandsSpec)

/-- ITS FALSE NEIGHBOUR: 'it returns false'. Refute it at one input. -/
def selectsBandsWrong : ChangeSpec := { name := "selectsBands", fn := fun _ => fun
  | [d1, d2, d3, d4] => { results := [.lit (.bool false)], args := [d1, d2, d3, d4] }
  | _ => none }
def SelectsBandsWrongFalsely : Prop := selectsBandsRow.holds Try.pinned (OpenSpec.ofChange selectsBandsWrong)

/-- 'boustrophedonlaw28.CellsStarts': WHATEVER THE INPUT: true; the input reads as it did. -/
def cellsStartsSpec : ChangeSpec := { name := "cellsStarts", fn := fun _ => fun
  | [d] => { results := [.lit (.bool true)], args := [d] }
  | _ => none }
def cellsStartsRow : OpenClaim := { program := "ytamfjmonpbojnaa", sum := "08fb845d2feabe3cbdc0f34c2f8d53af19d195adf85a72248a882171358542bc", func := "boustrophedon/boustrophedonlaw28.CellsStarts", spec := "cellsStarts", apart := false }
def CellsStartsSaid : Prop := cellsStartsRow.holds Try.pinned (OpenSpec.ofChange cellsStartsSpec)

/-- ITS FALSE NEIGHBOUR: 'it returns false'. Refute it at one input. -/
def cellsStartsWrong : ChangeSpec := { name := "cellsStarts", fn := fun _ => fun
  | [d] => { results := [.lit (.bool false)], args := [d] }
  | _ => none }
def CellsStartsWrongFalsely : Prop := cellsStartsRow.holds Try.pinned (OpenSpec.ofChange cellsStartsWrong)

/-- 'boustrophedonlaw35.SelectsWhole': WHATEVER THE INPUT: true; the input reads as it did. -/
def selectsWholeSpec : ChangeSpec := { name := "selectsWhole", fn := fun _ => fun
  | [d1, d2, d3] => { results := [.lit (.bool true)], args := [d1, d2, d3] }
  | _ => none }
def selectsWholeRow : OpenClaim := { program := "ytamfjmonpbojnaa", sum := "08fb845d2feabe3cbdc0f34c2f8d53af19d195adf85a72248a882171358542bc", func := "boustrophedon/boustrophedonlaw35.SelectsWhole", spec := "selectsWhole", recurses := true, apart := false }
def SelectsWholeSaid : Prop := selectsWholeRow.holds Try.pinned (OpenSpec.ofChange selectsWholeSpec)

/-- ITS FALSE NEIGHBOUR: 'it returns false'. Refute it at one input. -/
def selectsWholeWrong : ChangeSpec := { name := "selectsWhole", fn := fun _ => fun
  | [d1, d2, d3] => { results := [.lit (.bool false)], args := [d1, d2, d3] }
  | _ => none }
def SelectsWholeWrongFalsely : Prop := selectsWholeRow.holds Try.pinned (OpenSpec.ofChange selectsWholeWrong)

/-- 'boustrophedonlaw28.CellsHit': WHATEVER THE INPUT: true; the input reads as it did. -/
def cellsHitSpec : ChangeSpec := { name := "cellsHit", fn := fun _ => fun
  | [d1, d2] => { results := [.lit (.bool true)], args := [d1, d2] }
  | _ => none }
def cellsHitRow : OpenClaim := { program := "ytamfjmonpbojnaa", sum := "08fb845d2feabe3cbdc0f34c2f8d53af19d195adf85a72248a882171358542bc", func := "boustrophedon/boustrophedonlaw28.CellsHit", spec := "cellsHit", apart := false }
def CellsHitSaid : Prop := cellsHitRow.holds Try.pinned (OpenSpec.ofChange cellsHitSpec)

/-- ITS FALSE NEIGHBOUR: 'it returns false'. Refute it at one input. -/
def cellsHitWrong : ChangeSpec := { name := "cellsHit", fn := fun _ => fun
  | [d1, d2] => { results := [.lit (.bool false)], args := [d1, d2] }
  | _ => none }
def CellsHitWrongFalsely : Prop := cellsHitRow.holds Try.pinned (OpenSpec.ofChange cellsHitWrong)

/-- 'boustrophedonlaw28.CellsAll': WHATEVER THE INPUT: true; the input reads as it did. -/
def cellsAllSpec : ChangeSpec := { name := "cellsAll", fn := fun _ => fun
  | [d] => { results := [.lit (.bool true)], args := [d] }
  | _ => none }
def cellsAllRow : OpenClaim := { program := "ytamfjmonpbojnaa", sum := "08fb845d2feabe3cbdc0f34c2f8d53af19d195adf85a72248a882171358542bc", func := "boustrophedon/boustrophedonlaw28.CellsAll", spec := "cellsAll", apart := false }
def CellsAllSaid : Prop := cellsAllRow.holds Try.pinned (OpenSpec.ofChange cellsAllSpec)

/-- ITS FALSE NEIGHBOUR: 'it returns false'. Refute it at one input. -/
def cellsAllWrong : ChangeSpec := { name := "cellsAll", fn := fun _ => fun
  | [d] => { results := [.lit (.bool false)], args := [d] }
  | _ => none }
def CellsAllWrongFalsely : Prop := cellsAllRow.holds Try.pinned (OpenSpec.ofChange cellsAllWrong)

/-- 'boustrophedonlaw28.CellsParts': WHATEVER THE INPUT: true; the input reads as it did. -/
def cellsPartsSpec : ChangeSpec := { name := "cellsParts", fn := fun _ => fun
  | [d1, d2] => { results := [.lit (.bool true)], args := [d1, d2] }
  | _ => none }
def cellsPartsRow : OpenClaim := { program := "ytamfjmonpbojnaa", sum := "08fb845d2feabe3cbdc0f34c2f8d53af19d195adf85a72248a882171358542bc", func := "boustrophedon/boustrophedonlaw28.CellsParts", spec := "cellsParts", apart := false }
def CellsPartsSaid : Prop := cellsPartsRow.holds Try.pinned (OpenSpec.ofChange cellsPartsSpec)

/-- ITS FALSE NEIGHBOUR: 'it returns false'. Refute it at one input. -/
def cellsPartsWrong : ChangeSpec := { name := "cellsParts", fn := fun _ => fun
  | [d1, d2] => { results := [.lit (.bool false)], args := [d1, d2] }
  | _ => none }
def CellsPartsWrongFalsely : Prop := cellsPartsRow.holds Try.pinned (OpenSpec.ofChange cellsPartsWrong)

/-- 'boustrophedonlaw26.MarksRaw': WHATEVER THE INPUT: true; the input reads as it did. -/
def marksRawSpec : ChangeSpec := { name := "marksRaw", fn := fun _ => fun
  | [d1, d2, d3, d4] => { results := [.lit (.bool true)], args := [d1, d2, d3, d4] }
  | _ => none }
def marksRawRow : OpenClaim := { program := "ytamfjmonpbojnaa", sum := "08fb845d2feabe3cbdc0f34c2f8d53af19d195adf85a72248a882171358542bc", func := "boustrophedon/boustrophedonlaw26.MarksRaw", spec := "marksRaw", apart := false }
def MarksRawSaid : Prop := marksRawRow.holds Try.pinned (OpenSpec.ofChange marksRawSpec)

/-- ITS FALSE NEIGHBOUR: 'it returns false'. Refute it at one input. -/
def marksRawWrong : ChangeSpec := { name := "marksRaw", fn := fun _ => fun
  | [d1, d2, d3, d4] => { results := [.lit (.bool false)], args := [d1, d2, d3, d4] }
  | _ => none }
def MarksRawWrongFalsely : Prop := marksRawRow.holds Try.pinned (OpenSpec.ofChange marksRawWrong)

/-- 'boustrophedonlaw35.SelectsPlaces': WHATEVER THE INPUT: true; the input reads as it did. -/
def selectsPlacesSpec : ChangeSpec := { name := "selectsPlaces", fn := fun _ => fun
  | [d1, d2, d3, d4] => { results := [.lit (.bool true)], args := [d1, d2, d3, d4] }
  | _ => none }
def selectsPlacesRow : OpenClaim := { program := "ytamfjmonpbojnaa", sum := "08fb845d2feabe3cbdc0f34c2f8d53af19d195adf85a72248a882171358542bc", func := "boustrophedon/boustrophedonlaw35.SelectsPlaces", spec := "selectsPlaces", apart := false }
def SelectsPlacesSaid : Prop := selectsPlacesRow.holds Try.pinned (OpenSpec.ofChange selectsPlacesSpec)

/-- ITS FALSE NEIGHBOUR: 'it returns false'. Refute it at one input. -/
def selectsPlacesWrong : ChangeSpec := { name := "selectsPlaces", fn := fun _ => fun
  | [d1, d2, d3, d4] => { results := [.lit (.bool false)], args := [d1, d2, d3, d4] }
  | _ => none }
def SelectsPlacesWrongFalsely : Prop := selectsPlacesRow.holds Try.pinned (OpenSpec.ofChange selectsPlacesWrong)

/-- 'boustrophedonlaw25.OrderVisual': WHATEVER THE INPUT: true; the input reads as it did. -/
def orderVisualSpec : ChangeSpec := { name := "orderVisual", fn := fun _ => fun
  | [d1, d2] => { results := [.lit (.bool true)], args := [d1, d2] }
  | _ => none }
def orderVisualRow : OpenClaim := { program := "ytamfjmonpbojnaa", sum := "08fb845d2feabe3cbdc0f34c2f8d53af19d195adf85a72248a882171358542bc", func := "boustrophedon/boustrophedonlaw25.OrderVisual", spec := "orderVisual", recurses := true, apart := false }
def OrderVisualSaid : Prop := orderVisualRow.holds Try.pinned (OpenSpec.ofChange orderVisualSpec)

/-- ITS FALSE NEIGHBOUR: 'it returns false'. Refute it at one input. -/
def orderVisualWrong : ChangeSpec := { name := "orderVisual", fn := fun _ => fun
  | [d1, d2] => { results := [.lit (.bool false)], args := [d1, d2] }
  | _ => none }
def OrderVisualWrongFalsely : Prop := orderVisualRow.holds Try.pinned (OpenSpec.ofChange orderVisualWrong)

/-- 'boustrophedonlaw25.OrderBack': WHATEVER THE INPUT: true; the input reads as it did. -/
def orderBackSpec : ChangeSpec := { name := "orderBack", fn := fun _ => fun
  | [d1, d2] => { results := [.lit (.bool true)], args := [d1, d2] }
  | _ => none }
def orderBackRow : OpenClaim := { program := "ytamfjmonpbojnaa", sum := "08fb845d2feabe3cbdc0f34c2f8d53af19d195adf85a72248a882171358542bc", func := "boustrophedon/boustrophedonlaw25.OrderBack", spec := "orderBack", recurses := true, apart := false }
def OrderBackSaid : Prop := orderBackRow.holds Try.pinned (OpenSpec.ofChange orderBackSpec)

/-- ITS FALSE NEIGHBOUR: 'it returns false'. Refute it at one input. -/
def orderBackWrong : ChangeSpec := { name := "orderBack", fn := fun _ => fun
  | [d1, d2] => { results := [.lit (.bool false)], args := [d1, d2] }
  | _ => none }
def OrderBackWrongFalsely : Prop := orderBackRow.holds Try.pinned (OpenSpec.ofChange orderBackWrong)

/-- 'boustrophedonlaw25.OrderBoth': WHATEVER THE INPUT: true; the input reads as it did. -/
def orderBothSpec : ChangeSpec := { name := "orderBoth", fn := fun _ => fun
  | [d] => { results := [.lit (.bool true)], args := [d] }
  | _ => none }
def orderBothRow : OpenClaim := { program := "ytamfjmonpbojnaa", sum := "08fb845d2feabe3cbdc0f34c2f8d53af19d195adf85a72248a882171358542bc", func := "boustrophedon/boustrophedonlaw25.OrderBoth", spec := "orderBoth", recurses := true, apart := false }
def OrderBothSaid : Prop := orderBothRow.holds Try.pinned (OpenSpec.ofChange orderBothSpec)

/-- ITS FALSE NEIGHBOUR: 'it returns false'. Refute it at one input. -/
def orderBothWrong : ChangeSpec := { name := "orderBoth", fn := fun _ => fun
  | [d] => { results := [.lit (.bool false)], args := [d] }
  | _ => none }
def OrderBothWrongFalsely : Prop := orderBothRow.holds Try.pinned (OpenSpec.ofChange orderBothWrong)

/-- 'boustrophedonlaw25.OrderTwo': WHATEVER THE INPUT: true; the input reads as it did. -/
def orderTwoSpec : ChangeSpec := { name := "orderTwo", fn := fun _ => fun
  | [d1, d2] => { results := [.lit (.bool true)], args := [d1, d2] }
  | _ => none }
def orderTwoRow : OpenClaim := { program := "ytamfjmonpbojnaa", sum := "08fb845d2feabe3cbdc0f34c2f8d53af19d195adf85a72248a882171358542bc", func := "boustrophedon/boustrophedonlaw25.OrderTwo", spec := "orderTwo", recurses := true, apart := false }
def OrderTwoSaid : Prop := orderTwoRow.holds Try.pinned (OpenSpec.ofChange orderTwoSpec)

/-- ITS FALSE NEIGHBOUR: 'it returns false'. Refute it at one input. -/
def orderTwoWrong : ChangeSpec := { name := "orderTwo", fn := fun _ => fun
  | [d1, d2] => { results := [.lit (.bool false)], args := [d1, d2] }
  | _ => none }
def OrderTwoWrongFalsely : Prop := orderTwoRow.holds Try.pinned (OpenSpec.ofChange orderTwoWrong)

/-- 'boustrophedonlaw25.OrderParts': WHATEVER THE INPUT: true; the input reads as it did. -/
def orderPartsSpec : ChangeSpec := { name := "orderParts", fn := fun _ => fun
  | [d1, d2] => { results := [.lit (.bool true)], args := [d1, d2] }
  | _ => none }
def orderPartsRow : OpenClaim := { program := "ytamfjmonpbojnaa", sum := "08fb845d2feabe3cbdc0f34c2f8d53af19d195adf85a72248a882171358542bc", func := "boustrophedon/boustrophedonlaw25.OrderParts", spec := "orderParts", recurses := true, apart := false }
def OrderPartsSaid : Prop := orderPartsRow.holds Try.pinned (OpenSpec.ofChange orderPartsSpec)

/-- ITS FALSE NEIGHBOUR: 'it returns false'. Refute it at one input. -/
def orderPartsWrong : ChangeSpec := { name := "orderParts", fn := fun _ => fun
  | [d1, d2] => { results := [.lit (.bool false)], args := [d1, d2] }
  | _ => none }
def OrderPartsWrongFalsely : Prop := orderPartsRow.holds Try.pinned (OpenSpec.ofChange orderPartsWrong)

/-- 'boustrophedonlaw26.MarksFix': WHATEVER THE INPUT: true; the input reads as it did. -/
def marksFixSpec : ChangeSpec := { name := "marksFix", fn := fun _ => fun
  | [d1, d2, d3] => { results := [.lit (.bool true)], args := [d1, d2, d3] }
  | _ => none }
def marksFixRow : OpenClaim := { program := "ytamfjmonpbojnaa", sum := "08fb845d2feabe3cbdc0f34c2f8d53af19d195adf85a72248a882171358542bc", func := "boustrophedon/boustrophedonlaw26.MarksFix", spec := "marksFix", recurses := true, apart := false }
def MarksFixSaid : Prop := marksFixRow.holds Try.pinned (OpenSpec.ofChange marksFixSpec)

/-- ITS FALSE NEIGHBOUR: 'it returns false'. Refute it at one input. -/
def marksFixWrong : ChangeSpec := { name := "marksFix", fn := fun _ => fun
  | [d1, d2, d3] => { results := [.lit (.bool false)], args := [d1, d2, d3] }
  | _ => none }
def MarksFixWrongFalsely : Prop := marksFixRow.holds Try.pinned (OpenSpec.ofChange marksFixWrong)

/-- 'boustrophedonlaw26.MarksBase': WHATEVER THE INPUT: true; the input reads as it did. -/
def marksBaseSpec : ChangeSpec := { name := "marksBase", fn := fun _ => fun
  | [d] => { results := [.lit (.bool true)], args := [d] }
  | _ => none }
def marksBaseRow : OpenClaim := { program := "ytamfjmonpbojnaa", sum := "08fb845d2feabe3cbdc0f34c2f8d53af19d195adf85a72248a882171358542bc", func := "boustrophedon/boustrophedonlaw26.MarksBase", spec := "marksBase", recurses := true, apart := false }
def MarksBaseSaid : Prop := marksBaseRow.holds Try.pinned (OpenSpec.ofChange marksBaseSpec)

/-- ITS FALSE NEIGHBOUR: 'it returns false'. Refute it at one input. -/
def marksBaseWrong : ChangeSpec := { name := "marksBase", fn := fun _ => fun
  | [d] => { results := [.lit (.bool false)], args := [d] }
  | _ => none }
def MarksBaseWrongFalsely : Prop := marksBaseRow.holds Try.pinned (OpenSpec.ofChange marksBaseWrong)

/-- 'boustrophedonlaw26.MarksKeep': WHATEVER THE INPUT: true; the input reads as it did. -/
def marksKeepSpec : ChangeSpec := { name := "marksKeep", fn := fun _ => fun
  | [d1, d2, d3] => { results := [.lit (.bool true)], args := [d1, d2, d3] }
  | _ => none }
def marksKeepRow : OpenClaim := { program := "ytamfjmonpbojnaa", sum := "08fb845d2feabe3cbdc0f34c2f8d53af19d195adf85a72248a882171358542bc", func := "boustrophedon/boustrophedonlaw26.MarksKeep", spec := "marksKeep", recurses := true, apart := false }
def MarksKeepSaid : Prop := marksKeepRow.holds Try.pinned (OpenSpec.ofChange marksKeepSpec)

/-- ITS FALSE NEIGHBOUR: 'it returns false'. Refute it at one input. -/
def marksKeepWrong : ChangeSpec := { name := "marksKeep", fn := fun _ => fun
  | [d1, d2, d3] => { results := [.lit (.bool false)], args := [d1, d2, d3] }
  | _ => none }
def MarksKeepWrongFalsely : Prop := marksKeepRow.holds Try.pinned (OpenSpec.ofChange marksKeepWrong)

/-- 'boustrophedonlaw35.SelectsBack': WHATEVER THE INPUT: true; the input reads as it did. -/
def selectsBackSpec : ChangeSpec := { name := "selectsBack", fn := fun _ => fun
  | [d1, d2, d3, d4] => { results := [.lit (.bool true)], args := [d1, d2, d3, d4] }
  | _ => none }
def selectsBackRow : OpenClaim := { program := "ytamfjmonpbojnaa", sum := "08fb845d2feabe3cbdc0f34c2f8d53af19d195adf85a72248a882171358542bc", func := "boustrophedon/boustrophedonlaw35.SelectsBack", spec := "selectsBack", recurses := true, apart := false }
def SelectsBackSaid : Prop := selectsBackRow.holds Try.pinned (OpenSpec.ofChange selectsBackSpec)

/-- ITS FALSE NEIGHBOUR: 'it returns false'. Refute it at one input. -/
def selectsBackWrong : ChangeSpec := { name := "selectsBack", fn := fun _ => fun
  | [d1, d2, d3, d4] => { results := [.lit (.bool false)], args := [d1, d2, d3, d4] }
  | _ => none }
def SelectsBackWrongFalsely : Prop := selectsBackRow.holds Try.pinned (OpenSpec.ofChange selectsBackWrong)

/- THE SECOND FORM. 'bulk': how many values and letters a reading holds, each counted each time it is reached (what is shared counts as often as it is met; a slice's spare places count too). A statement '..UptoSaid' is the law's where the arguments, and the package variables that the reading takes, are together of bulk at most 1048576: NARROWER than '..Said'. Prove '..Said' where nothing that the law and all that it calls make is longer than what came in: it says more and counts as full. Else prove '..UptoSaid'. A law counts once. -/
mutual
def uptoBulk {H : Type} : DataW H → Nat
  | .lit (.string bytes) => bytes.length + 1
  | .lit _ => 1
  | .nil => 1
  | .ptr d => uptoBulk d + 1
  | .slice elems spare => uptoBulkAll elems + uptoBulkAll spare + 1
  | .agg parts => uptoBulkAll parts + 1
  | .iface _ d => uptoBulk d + 1
  | .map entries => uptoBulkEntries entries + 1
  | .held _ => 1
def uptoBulkAll {H : Type} : List (DataW H) → Nat
  | [] => 0
  | d :: r => uptoBulk d + uptoBulkAll r
def uptoBulkEntries {H : Type} : List (Lit × DataW H) → Nat
  | [] => 0
  | x :: r => uptoBulkEntry x + uptoBulkEntries r
def uptoBulkEntry {H : Type} : Lit × DataW H → Nat
  | (.string bytes, d) => bytes.length + uptoBulk d + 1
  | (_, d) => uptoBulk d + 1
 end
def uptoSmall : (H : Type) → List (DataW H) → Bool := fun _ ds => decide (uptoBulkAll ds ≤ 1048576)
def OpenSpec.upto (s : _root_.Go.ChangeSpec) : _root_.Go.OpenSpec := { _root_.Go.OpenSpec.ofChange s with cond := some uptoSmall }

/-- 'boustrophedonlaw12.RunsCut', WHERE WHAT IT READS IS OF BULK AT MOST 1048576: true; the input reads as it did. -/
def runsCutUptoRow : OpenClaim := { program := "ytamfjmonpbojnaa", sum := "08fb845d2feabe3cbdc0f34c2f8d53af19d195adf85a72248a882171358542bc", func := "boustrophedon/boustrophedonlaw12.RunsCut", spec := "runsCut", apart := false, narrowed := true }
def RunsCutUptoSaid : Prop := runsCutUptoRow.holds Try.pinned (OpenSpec.upto runsCutSpec)

/-- 'boustrophedonlaw12.RunsEven', WHERE WHAT IT READS IS OF BULK AT MOST 1048576: true; the input reads as it did. -/
def runsEvenUptoRow : OpenClaim := { program := "ytamfjmonpbojnaa", sum := "08fb845d2feabe3cbdc0f34c2f8d53af19d195adf85a72248a882171358542bc", func := "boustrophedon/boustrophedonlaw12.RunsEven", spec := "runsEven", apart := false, narrowed := true }
def RunsEvenUptoSaid : Prop := runsEvenUptoRow.holds Try.pinned (OpenSpec.upto runsEvenSpec)

/-- 'boustrophedonlaw12.RunsCount', WHERE WHAT IT READS IS OF BULK AT MOST 1048576: true; the input reads as it did. -/
def runsCountUptoRow : OpenClaim := { program := "ytamfjmonpbojnaa", sum := "08fb845d2feabe3cbdc0f34c2f8d53af19d195adf85a72248a882171358542bc", func := "boustrophedon/boustrophedonlaw12.RunsCount", spec := "runsCount", apart := false, narrowed := true }
def RunsCountUptoSaid : Prop := runsCountUptoRow.holds Try.pinned (OpenSpec.upto runsCountSpec)

/-- 'boustrophedonlaw35.SelectsBands', WHERE WHAT IT READS IS OF BULK AT MOST 1048576: true; the input reads as it did. -/
def selectsBandsUptoRow : OpenClaim := { program := "ytamfjmonpbojnaa", sum := "08fb845d2feabe3cbdc0f34c2f8d53af19d195adf85a72248a882171358542bc", func := "boustrophedon/boustrophedonlaw35.SelectsBands", spec := "selectsBands", recurses := true, apart := false, narrowed := true }
def SelectsBandsUptoSaid : Prop := selectsBandsUptoRow.holds Try.pinned (OpenSpec.upto selectsBandsSpec)

/-- 'boustrophedonlaw28.CellsStarts', WHERE WHAT IT READS IS OF BULK AT MOST 1048576: true; the input reads as it did. -/
def cellsStartsUptoRow : OpenClaim := { program := "ytamfjmonpbojnaa", sum := "08fb845d2feabe3cbdc0f34c2f8d53af19d195adf85a72248a882171358542bc", func := "boustrophedon/boustrophedonlaw28.CellsStarts", spec := "cellsStarts", apart := false, narrowed := true }
def CellsStartsUptoSaid : Prop := cellsStartsUptoRow.holds Try.pinned (OpenSpec.upto cellsStartsSpec)

/-- 'boustrophedonlaw35.SelectsWhole', WHERE WHAT IT READS IS OF BULK AT MOST 1048576: true; the input reads as it did. -/
def selectsWholeUptoRow : OpenClaim := { program := "ytamfjmonpbojnaa", sum := "08fb845d2feabe3cbdc0f34c2f8d53af19d195adf85a72248a882171358542bc", func := "boustrophedon/boustrophedonlaw35.SelectsWhole", spec := "selectsWhole", recurses := true, apart := false, narrowed := true }
def SelectsWholeUptoSaid : Prop := selectsWholeUptoRow.holds Try.pinned (OpenSpec.upto selectsWholeSpec)

/-- 'boustrophedonlaw28.CellsHit', WHERE WHAT IT READS IS OF BULK AT MOST 1048576: true; the input reads as it did. -/
def cellsHitUptoRow : OpenClaim := { program := "ytamfjmonpbojnaa", sum := "08fb845d2feabe3cbdc0f34c2f8d53af19d195adf85a72248a882171358542bc", func := "boustrophedon/boustrophedonlaw28.CellsHit", spec := "cellsHit", apart := false, narrowed := true }
def CellsHitUptoSaid : Prop := cellsHitUptoRow.holds Try.pinned (OpenSpec.upto cellsHitSpec)

/-- 'boustrophedonlaw28.CellsAll', WHERE WHAT IT READS IS OF BULK AT MOST 1048576: true; the input reads as it did. -/
def cellsAllUptoRow : OpenClaim := { program := "ytamfjmonpbojnaa", sum := "08fb845d2feabe3cbdc0f34c2f8d53af19d195adf85a72248a882171358542bc", func := "boustrophedon/boustrophedonlaw28.CellsAll", spec := "cellsAll", apart := false, narrowed := true }
def CellsAllUptoSaid : Prop := cellsAllUptoRow.holds Try.pinned (OpenSpec.upto cellsAllSpec)

/-- 'boustrophedonlaw28.CellsParts', WHERE WHAT IT READS IS OF BULK AT MOST 1048576: true; the input reads as it did. -/
def cellsPartsUptoRow : OpenClaim := { program := "ytamfjmonpbojnaa", sum := "08fb845d2feabe3cbdc0f34c2f8d53af19d195adf85a72248a882171358542bc", func := "boustrophedon/boustrophedonlaw28.CellsParts", spec := "cellsParts", apart := false, narrowed := true }
def CellsPartsUptoSaid : Prop := cellsPartsUptoRow.holds Try.pinned (OpenSpec.upto cellsPartsSpec)

/-- 'boustrophedonlaw26.MarksRaw', WHERE WHAT IT READS IS OF BULK AT MOST 1048576: true; the input reads as it did. -/
def marksRawUptoRow : OpenClaim := { program := "ytamfjmonpbojnaa", sum := "08fb845d2feabe3cbdc0f34c2f8d53af19d195adf85a72248a882171358542bc", func := "boustrophedon/boustrophedonlaw26.MarksRaw", spec := "marksRaw", apart := false, narrowed := true }
def MarksRawUptoSaid : Prop := marksRawUptoRow.holds Try.pinned (OpenSpec.upto marksRawSpec)

/-- 'boustrophedonlaw35.SelectsPlaces', WHERE WHAT IT READS IS OF BULK AT MOST 1048576: true; the input reads as it did. -/
def selectsPlacesUptoRow : OpenClaim := { program := "ytamfjmonpbojnaa", sum := "08fb845d2feabe3cbdc0f34c2f8d53af19d195adf85a72248a882171358542bc", func := "boustrophedon/boustrophedonlaw35.SelectsPlaces", spec := "selectsPlaces", apart := false, narrowed := true }
def SelectsPlacesUptoSaid : Prop := selectsPlacesUptoRow.holds Try.pinned (OpenSpec.upto selectsPlacesSpec)

/-- 'boustrophedonlaw25.OrderVisual', WHERE WHAT IT READS IS OF BULK AT MOST 1048576: true; the input reads as it did. -/
def orderVisualUptoRow : OpenClaim := { program := "ytamfjmonpbojnaa", sum := "08fb845d2feabe3cbdc0f34c2f8d53af19d195adf85a72248a882171358542bc", func := "boustrophedon/boustrophedonlaw25.OrderVisual", spec := "orderVisual", recurses := true, apart := false, narrowed := true }
def OrderVisualUptoSaid : Prop := orderVisualUptoRow.holds Try.pinned (OpenSpec.upto orderVisualSpec)

/-- 'boustrophedonlaw25.OrderBack', WHERE WHAT IT READS IS OF BULK AT MOST 1048576: true; the input reads as it did. -/
def orderBackUptoRow : OpenClaim := { program := "ytamfjmonpbojnaa", sum := "08fb845d2feabe3cbdc0f34c2f8d53af19d195adf85a72248a882171358542bc", func := "boustrophedon/boustrophedonlaw25.OrderBack", spec := "orderBack", recurses := true, apart := false, narrowed := true }
def OrderBackUptoSaid : Prop := orderBackUptoRow.holds Try.pinned (OpenSpec.upto orderBackSpec)

/-- 'boustrophedonlaw25.OrderBoth', WHERE WHAT IT READS IS OF BULK AT MOST 1048576: true; the input reads as it did. -/
def orderBothUptoRow : OpenClaim := { program := "ytamfjmonpbojnaa", sum := "08fb845d2feabe3cbdc0f34c2f8d53af19d195adf85a72248a882171358542bc", func := "boustrophedon/boustrophedonlaw25.OrderBoth", spec := "orderBoth", recurses := true, apart := false, narrowed := true }
def OrderBothUptoSaid : Prop := orderBothUptoRow.holds Try.pinned (OpenSpec.upto orderBothSpec)

/-- 'boustrophedonlaw25.OrderTwo', WHERE WHAT IT READS IS OF BULK AT MOST 1048576: true; the input reads as it did. -/
def orderTwoUptoRow : OpenClaim := { program := "ytamfjmonpbojnaa", sum := "08fb845d2feabe3cbdc0f34c2f8d53af19d195adf85a72248a882171358542bc", func := "boustrophedon/boustrophedonlaw25.OrderTwo", spec := "orderTwo", recurses := true, apart := false, narrowed := true }
def OrderTwoUptoSaid : Prop := orderTwoUptoRow.holds Try.pinned (OpenSpec.upto orderTwoSpec)

/-- 'boustrophedonlaw25.OrderParts', WHERE WHAT IT READS IS OF BULK AT MOST 1048576: true; the input reads as it did. -/
def orderPartsUptoRow : OpenClaim := { program := "ytamfjmonpbojnaa", sum := "08fb845d2feabe3cbdc0f34c2f8d53af19d195adf85a72248a882171358542bc", func := "boustrophedon/boustrophedonlaw25.OrderParts", spec := "orderParts", recurses := true, apart := false, narrowed := true }
def OrderPartsUptoSaid : Prop := orderPartsUptoRow.holds Try.pinned (OpenSpec.upto orderPartsSpec)

/-- 'boustrophedonlaw26.MarksFix', WHERE WHAT IT READS IS OF BULK AT MOST 1048576: true; the input reads as it did. -/
def marksFixUptoRow : OpenClaim := { program := "ytamfjmonpbojnaa", sum := "08fb845d2feabe3cbdc0f34c2f8d53af19d195adf85a72248a882171358542bc", func := "boustrophedon/boustrophedonlaw26.MarksFix", spec := "marksFix", recurses := true, apart := false, narrowed := true }
def MarksFixUptoSaid : Prop := marksFixUptoRow.holds Try.pinned (OpenSpec.upto marksFixSpec)

/-- 'boustrophedonlaw26.MarksBase', WHERE WHAT IT READS IS OF BULK AT MOST 1048576: true; the input reads as it did. -/
def marksBaseUptoRow : OpenClaim := { program := "ytamfjmonpbojnaa", sum := "08fb845d2feabe3cbdc0f34c2f8d53af19d195adf85a72248a882171358542bc", func := "boustrophedon/boustrophedonlaw26.MarksBase", spec := "marksBase", recurses := true, apart := false, narrowed := true }
def MarksBaseUptoSaid : Prop := marksBaseUptoRow.holds Try.pinned (OpenSpec.upto marksBaseSpec)

/-- 'boustrophedonlaw26.MarksKeep', WHERE WHAT IT READS IS OF BULK AT MOST 1048576: true; the input reads as it did. -/
def marksKeepUptoRow : OpenClaim := { program := "ytamfjmonpbojnaa", sum := "08fb845d2feabe3cbdc0f34c2f8d53af19d195adf85a72248a882171358542bc", func := "boustrophedon/boustrophedonlaw26.MarksKeep", spec := "marksKeep", recurses := true, apart := false, narrowed := true }
def MarksKeepUptoSaid : Prop := marksKeepUptoRow.holds Try.pinned (OpenSpec.upto marksKeepSpec)

/-- 'boustrophedonlaw35.SelectsBack', WHERE WHAT IT READS IS OF BULK AT MOST 1048576: true; the input reads as it did. -/
def selectsBackUptoRow : OpenClaim := { program := "ytamfjmonpbojnaa", sum := "08fb845d2feabe3cbdc0f34c2f8d53af19d195adf85a72248a882171358542bc", func := "boustrophedon/boustrophedonlaw35.SelectsBack", spec := "selectsBack", recurses := true, apart := false, narrowed := true }
def SelectsBackUptoSaid : Prop := selectsBackUptoRow.holds Try.pinned (OpenSpec.upto selectsBackSpec)

end Rows
end Go.Proofs.Ytamfjmonpbojnaa
