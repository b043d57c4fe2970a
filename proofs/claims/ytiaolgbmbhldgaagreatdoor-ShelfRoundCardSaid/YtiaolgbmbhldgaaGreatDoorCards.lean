/-
  DERIVED. GIVEN WITH THE SEED: THE CARDS: each row of YtiaolgbmbhldgaaGreatDoorRows.lean that lists a variable, with what it lists TIED to the program's text (the seventh form; the later family's looks); each row that meets fmt, with fmt's text TOLD by the authors' own Lean function (tested against real Go, not proved from fmt's source: count such statements apart). THE CARD IS WHAT COUNTS. Prove the row's statement (the work); the ties are given (YtiaolgbmbhldgaaGreatDoorTie.lean); close each card by the builder's one call (the guide's Derived/Test/ToyasCard.lean, 'card_holds'). Laid BY PROGRAM, IN A SANDBOX (cutbox-door.mjs). By AI agents, Wed Nov 11 2026. No macro, syntax, notation, axiom, sorry.
-/
import Derived.Test.YtiaolgbmbhldgaaGreatDoorRows
import GoSem.ClaimSeven
namespace Go.Proofs.YtiaolgbmbhldgaaGreatDoor
namespace Rows

/-- THE TIED CARD OF 'duodecimolaw09.ShelfMarks'. -/
def shelfMarksCard : Claim7 := { stood := { row := shelfMarksRow, standIns := [], harness := (true, "d6434d389cdd644462e4cc8f64b868306a1eced2cb0ec4c62e87c9ad41c3599b"), looks := true }, kinds := [], alts := [], laidByText := true, laidKinds := [.data, .data, .data, .sentinel, .sentinel], laidTests := true, laidLooks := .later }
def ShelfMarksCardSaid : Prop := Claim7.holds Tryz.pinned (.plain (OpenSpec.ofChange shelfMarksSpec)) shelfMarksCard

/-- THE TIED CARD OF 'duodecimolaw09.ShelfPuts'. -/
def shelfPutsCard : Claim7 := { stood := { row := shelfPutsRow, standIns := [], harness := (true, "d6434d389cdd644462e4cc8f64b868306a1eced2cb0ec4c62e87c9ad41c3599b"), looks := true }, kinds := [], alts := [], laidByText := true, laidKinds := [.data, .data, .data, .sentinel, .sentinel], laidTests := true, laidLooks := .later }
def ShelfPutsCardSaid : Prop := Claim7.holds Tryz.pinned (.plain (OpenSpec.ofChange shelfPutsSpec)) shelfPutsCard

/-- THE TIED CARD OF 'duodecimolaw09.ShelfMoves'. -/
def shelfMovesCard : Claim7 := { stood := { row := shelfMovesRow, standIns := [], harness := (true, "d6434d389cdd644462e4cc8f64b868306a1eced2cb0ec4c62e87c9ad41c3599b"), looks := true }, kinds := [], alts := [], laidByText := true, laidKinds := [.data, .data, .data, .sentinel, .sentinel], laidTests := true, laidLooks := .later }
def ShelfMovesCardSaid : Prop := Claim7.holds Tryz.pinned (.plain (OpenSpec.ofChange shelfMovesSpec)) shelfMovesCard

/-- THE TIED CARD OF 'duodecimolaw09.ShelfWalks'. -/
def shelfWalksCard : Claim7 := { stood := { row := shelfWalksRow, standIns := [], harness := (true, "d6434d389cdd644462e4cc8f64b868306a1eced2cb0ec4c62e87c9ad41c3599b"), looks := true }, kinds := [], alts := [], laidByText := true, laidKinds := [.data, .data, .data, .sentinel, .sentinel], laidTests := true, laidLooks := .later }
def ShelfWalksCardSaid : Prop := Claim7.holds Tryz.pinned (.plain (OpenSpec.ofChange shelfWalksSpec)) shelfWalksCard

/-- THE TIED CARD OF 'duodecimolaw09.ShelfKnown'. -/
def shelfKnownCard : Claim7 := { stood := { row := shelfKnownRow, standIns := [], harness := (true, "d6434d389cdd644462e4cc8f64b868306a1eced2cb0ec4c62e87c9ad41c3599b"), looks := true }, kinds := [], alts := [], laidByText := true, laidKinds := [.data, .data, .data, .sentinel, .sentinel], laidTests := true, laidLooks := .later }
def ShelfKnownCardSaid : Prop := Claim7.holds Tryz.pinned (.plain (OpenSpec.ofChange shelfKnownSpec)) shelfKnownCard

/-- THE TIED CARD OF 'duodecimolaw09.ShelfRound'. -/
def shelfRoundCard : Claim7 := { stood := { row := shelfRoundRow, standIns := [], harness := (true, "d6434d389cdd644462e4cc8f64b868306a1eced2cb0ec4c62e87c9ad41c3599b"), looks := true }, kinds := [], alts := [], laidByText := true, laidKinds := [.data, .data, .data, .sentinel, .sentinel], laidTests := true, laidLooks := .later }
def ShelfRoundCardSaid : Prop := Claim7.holds Tryz.pinned (.plain (OpenSpec.ofChange shelfRoundSpec)) shelfRoundCard

/-- THE TIED CARD OF 'duodecimolaw09.ShelfOrder'. -/
def shelfOrderCard : Claim7 := { stood := { row := shelfOrderRow, standIns := [], harness := (true, "d6434d389cdd644462e4cc8f64b868306a1eced2cb0ec4c62e87c9ad41c3599b"), looks := true }, kinds := [], alts := [], laidByText := true, laidKinds := [.data, .data, .data, .sentinel, .sentinel], laidTests := true, laidLooks := .later }
def ShelfOrderCardSaid : Prop := Claim7.holds Tryz.pinned (.plain (OpenSpec.ofChange shelfOrderSpec)) shelfOrderCard

/-- THE TIED CARD OF 'duodecimolaw09.ShelfAstray'. -/
def shelfAstrayCard : Claim7 := { stood := { row := shelfAstrayRow, standIns := [], harness := (true, "d6434d389cdd644462e4cc8f64b868306a1eced2cb0ec4c62e87c9ad41c3599b"), looks := true }, kinds := [], alts := [], laidByText := true, laidKinds := [.data, .data, .data, .sentinel, .sentinel], laidTests := true, laidLooks := .later }
def ShelfAstrayCardSaid : Prop := Claim7.holds Tryz.pinned (.plain (OpenSpec.ofChange shelfAstraySpec)) shelfAstrayCard

/-- THE TIED CARD OF 'duodecimolaw09.ShelfPut'. -/
def shelfPutCard : Claim7 := { stood := { row := shelfPutRow, standIns := [], harness := (true, "d6434d389cdd644462e4cc8f64b868306a1eced2cb0ec4c62e87c9ad41c3599b"), looks := true }, kinds := [], alts := [], laidByText := true, laidKinds := [.data, .data, .data, .sentinel, .sentinel], laidTests := true, laidLooks := .later }
def ShelfPutCardSaid : Prop := Claim7.holds Tryz.pinned (.plain (OpenSpec.ofChange shelfPutSpec)) shelfPutCard

/-- THE TIED CARD OF 'duodecimolaw09.ShelfArranged'. -/
def shelfArrangedCard : Claim7 := { stood := { row := shelfArrangedRow, standIns := [], harness := (true, "d6434d389cdd644462e4cc8f64b868306a1eced2cb0ec4c62e87c9ad41c3599b"), looks := true }, kinds := [], alts := [], laidByText := true, laidKinds := [.data, .data, .data, .sentinel, .sentinel], laidTests := true, laidLooks := .later }
def ShelfArrangedCardSaid : Prop := Claim7.holds Tryz.pinned (.plain (OpenSpec.ofChange shelfArrangedSpec)) shelfArrangedCard

/-- THE TIED CARD OF 'duodecimolaw09.ShelfWider'. -/
def shelfWiderCard : Claim7 := { stood := { row := shelfWiderRow, standIns := [], harness := (true, "d6434d389cdd644462e4cc8f64b868306a1eced2cb0ec4c62e87c9ad41c3599b"), looks := true }, kinds := [], alts := [], laidByText := true, laidKinds := [.data, .data, .data, .sentinel, .sentinel], laidTests := true, laidLooks := .later }
def ShelfWiderCardSaid : Prop := Claim7.holds Tryz.pinned (.plain (OpenSpec.ofChange shelfWiderSpec)) shelfWiderCard

/-- THE TIED CARD OF 'duodecimolaw09.ShelfWay'. -/
def shelfWayCard : Claim7 := { stood := { row := shelfWayRow, standIns := [], harness := (true, "d6434d389cdd644462e4cc8f64b868306a1eced2cb0ec4c62e87c9ad41c3599b"), looks := true }, kinds := [], alts := [], laidByText := true, laidKinds := [.data, .data, .data, .sentinel, .sentinel], laidTests := true, laidLooks := .later }
def ShelfWayCardSaid : Prop := Claim7.holds Tryz.pinned (.plain (OpenSpec.ofChange shelfWaySpec)) shelfWayCard

/-- THE TIED CARD OF 'duodecimolaw09.ShelfSpare'. -/
def shelfSpareCard : Claim7 := { stood := { row := shelfSpareRow, standIns := [], harness := (true, "d6434d389cdd644462e4cc8f64b868306a1eced2cb0ec4c62e87c9ad41c3599b"), looks := true }, kinds := [], alts := [], laidByText := true, laidKinds := [.data, .data, .data, .sentinel, .sentinel], laidTests := true, laidLooks := .later }
def ShelfSpareCardSaid : Prop := Claim7.holds Tryz.pinned (.plain (OpenSpec.ofChange shelfSpareSpec)) shelfSpareCard

/-- THE SECOND FORM's CARD OF 'duodecimolaw09.ShelfMarks'. -/
def shelfMarksUptoCard : Claim7 := { stood := { row := shelfMarksUptoRow, standIns := [], harness := (true, "d6434d389cdd644462e4cc8f64b868306a1eced2cb0ec4c62e87c9ad41c3599b"), looks := true }, kinds := [], alts := [], laidByText := true, laidKinds := [.data, .data, .data, .sentinel, .sentinel], laidTests := true, laidLooks := .later }
def ShelfMarksUptoCardSaid : Prop := Claim7.holds Tryz.pinned (.plain (OpenSpec.upto shelfMarksSpec)) shelfMarksUptoCard

/-- THE SECOND FORM's CARD OF 'duodecimolaw09.ShelfPuts'. -/
def shelfPutsUptoCard : Claim7 := { stood := { row := shelfPutsUptoRow, standIns := [], harness := (true, "d6434d389cdd644462e4cc8f64b868306a1eced2cb0ec4c62e87c9ad41c3599b"), looks := true }, kinds := [], alts := [], laidByText := true, laidKinds := [.data, .data, .data, .sentinel, .sentinel], laidTests := true, laidLooks := .later }
def ShelfPutsUptoCardSaid : Prop := Claim7.holds Tryz.pinned (.plain (OpenSpec.upto shelfPutsSpec)) shelfPutsUptoCard

/-- THE SECOND FORM's CARD OF 'duodecimolaw09.ShelfMoves'. -/
def shelfMovesUptoCard : Claim7 := { stood := { row := shelfMovesUptoRow, standIns := [], harness := (true, "d6434d389cdd644462e4cc8f64b868306a1eced2cb0ec4c62e87c9ad41c3599b"), looks := true }, kinds := [], alts := [], laidByText := true, laidKinds := [.data, .data, .data, .sentinel, .sentinel], laidTests := true, laidLooks := .later }
def ShelfMovesUptoCardSaid : Prop := Claim7.holds Tryz.pinned (.plain (OpenSpec.upto shelfMovesSpec)) shelfMovesUptoCard

/-- THE SECOND FORM's CARD OF 'duodecimolaw09.ShelfWalks'. -/
def shelfWalksUptoCard : Claim7 := { stood := { row := shelfWalksUptoRow, standIns := [], harness := (true, "d6434d389cdd644462e4cc8f64b868306a1eced2cb0ec4c62e87c9ad41c3599b"), looks := true }, kinds := [], alts := [], laidByText := true, laidKinds := [.data, .data, .data, .sentinel, .sentinel], laidTests := true, laidLooks := .later }
def ShelfWalksUptoCardSaid : Prop := Claim7.holds Tryz.pinned (.plain (OpenSpec.upto shelfWalksSpec)) shelfWalksUptoCard

/-- THE SECOND FORM's CARD OF 'duodecimolaw09.ShelfKnown'. -/
def shelfKnownUptoCard : Claim7 := { stood := { row := shelfKnownUptoRow, standIns := [], harness := (true, "d6434d389cdd644462e4cc8f64b868306a1eced2cb0ec4c62e87c9ad41c3599b"), looks := true }, kinds := [], alts := [], laidByText := true, laidKinds := [.data, .data, .data, .sentinel, .sentinel], laidTests := true, laidLooks := .later }
def ShelfKnownUptoCardSaid : Prop := Claim7.holds Tryz.pinned (.plain (OpenSpec.upto shelfKnownSpec)) shelfKnownUptoCard

/-- THE SECOND FORM's CARD OF 'duodecimolaw09.ShelfRound'. -/
def shelfRoundUptoCard : Claim7 := { stood := { row := shelfRoundUptoRow, standIns := [], harness := (true, "d6434d389cdd644462e4cc8f64b868306a1eced2cb0ec4c62e87c9ad41c3599b"), looks := true }, kinds := [], alts := [], laidByText := true, laidKinds := [.data, .data, .data, .sentinel, .sentinel], laidTests := true, laidLooks := .later }
def ShelfRoundUptoCardSaid : Prop := Claim7.holds Tryz.pinned (.plain (OpenSpec.upto shelfRoundSpec)) shelfRoundUptoCard

/-- THE SECOND FORM's CARD OF 'duodecimolaw09.ShelfOrder'. -/
def shelfOrderUptoCard : Claim7 := { stood := { row := shelfOrderUptoRow, standIns := [], harness := (true, "d6434d389cdd644462e4cc8f64b868306a1eced2cb0ec4c62e87c9ad41c3599b"), looks := true }, kinds := [], alts := [], laidByText := true, laidKinds := [.data, .data, .data, .sentinel, .sentinel], laidTests := true, laidLooks := .later }
def ShelfOrderUptoCardSaid : Prop := Claim7.holds Tryz.pinned (.plain (OpenSpec.upto shelfOrderSpec)) shelfOrderUptoCard

/-- THE SECOND FORM's CARD OF 'duodecimolaw09.ShelfAstray'. -/
def shelfAstrayUptoCard : Claim7 := { stood := { row := shelfAstrayUptoRow, standIns := [], harness := (true, "d6434d389cdd644462e4cc8f64b868306a1eced2cb0ec4c62e87c9ad41c3599b"), looks := true }, kinds := [], alts := [], laidByText := true, laidKinds := [.data, .data, .data, .sentinel, .sentinel], laidTests := true, laidLooks := .later }
def ShelfAstrayUptoCardSaid : Prop := Claim7.holds Tryz.pinned (.plain (OpenSpec.upto shelfAstraySpec)) shelfAstrayUptoCard

/-- THE SECOND FORM's CARD OF 'duodecimolaw09.ShelfPut'. -/
def shelfPutUptoCard : Claim7 := { stood := { row := shelfPutUptoRow, standIns := [], harness := (true, "d6434d389cdd644462e4cc8f64b868306a1eced2cb0ec4c62e87c9ad41c3599b"), looks := true }, kinds := [], alts := [], laidByText := true, laidKinds := [.data, .data, .data, .sentinel, .sentinel], laidTests := true, laidLooks := .later }
def ShelfPutUptoCardSaid : Prop := Claim7.holds Tryz.pinned (.plain (OpenSpec.upto shelfPutSpec)) shelfPutUptoCard

/-- THE SECOND FORM's CARD OF 'duodecimolaw09.ShelfArranged'. -/
def shelfArrangedUptoCard : Claim7 := { stood := { row := shelfArrangedUptoRow, standIns := [], harness := (true, "d6434d389cdd644462e4cc8f64b868306a1eced2cb0ec4c62e87c9ad41c3599b"), looks := true }, kinds := [], alts := [], laidByText := true, laidKinds := [.data, .data, .data, .sentinel, .sentinel], laidTests := true, laidLooks := .later }
def ShelfArrangedUptoCardSaid : Prop := Claim7.holds Tryz.pinned (.plain (OpenSpec.upto shelfArrangedSpec)) shelfArrangedUptoCard

/-- THE SECOND FORM's CARD OF 'duodecimolaw09.ShelfWider'. -/
def shelfWiderUptoCard : Claim7 := { stood := { row := shelfWiderUptoRow, standIns := [], harness := (true, "d6434d389cdd644462e4cc8f64b868306a1eced2cb0ec4c62e87c9ad41c3599b"), looks := true }, kinds := [], alts := [], laidByText := true, laidKinds := [.data, .data, .data, .sentinel, .sentinel], laidTests := true, laidLooks := .later }
def ShelfWiderUptoCardSaid : Prop := Claim7.holds Tryz.pinned (.plain (OpenSpec.upto shelfWiderSpec)) shelfWiderUptoCard

/-- THE SECOND FORM's CARD OF 'duodecimolaw09.ShelfWay'. -/
def shelfWayUptoCard : Claim7 := { stood := { row := shelfWayUptoRow, standIns := [], harness := (true, "d6434d389cdd644462e4cc8f64b868306a1eced2cb0ec4c62e87c9ad41c3599b"), looks := true }, kinds := [], alts := [], laidByText := true, laidKinds := [.data, .data, .data, .sentinel, .sentinel], laidTests := true, laidLooks := .later }
def ShelfWayUptoCardSaid : Prop := Claim7.holds Tryz.pinned (.plain (OpenSpec.upto shelfWaySpec)) shelfWayUptoCard

/-- THE SECOND FORM's CARD OF 'duodecimolaw09.ShelfSpare'. -/
def shelfSpareUptoCard : Claim7 := { stood := { row := shelfSpareUptoRow, standIns := [], harness := (true, "d6434d389cdd644462e4cc8f64b868306a1eced2cb0ec4c62e87c9ad41c3599b"), looks := true }, kinds := [], alts := [], laidByText := true, laidKinds := [.data, .data, .data, .sentinel, .sentinel], laidTests := true, laidLooks := .later }
def ShelfSpareUptoCardSaid : Prop := Claim7.holds Tryz.pinned (.plain (OpenSpec.upto shelfSpareSpec)) shelfSpareUptoCard
end Rows
end Go.Proofs.YtiaolgbmbhldgaaGreatDoor
