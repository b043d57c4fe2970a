/-
  DERIVED. GIVEN WITH THE SEED: THE CARDS: each row of YtgbbhdoobhdadaaGreatDoorRows.lean that lists a variable, with what it lists TIED to the program's text (the seventh form; the later family's looks); each row that meets fmt, with fmt's text TOLD by the authors' own Lean function (tested against real Go, not proved from fmt's source: count such statements apart). THE CARD IS WHAT COUNTS. Prove the row's statement (the work); the ties are given (YtgbbhdoobhdadaaGreatDoorTie.lean); close each card by the builder's one call (the guide's Derived/Test/ToyasCard.lean, 'card_holds'). Laid BY PROGRAM, IN A SANDBOX (cutbox-door.mjs). By AI agents, Wed Nov 11 2026. No macro, syntax, notation, axiom, sorry.
-/
import Derived.Test.YtgbbhdoobhdadaaGreatDoorRows
import GoSem.ClaimSeven
namespace Go.Proofs.YtgbbhdoobhdadaaGreatDoor
namespace Rows

/-- THE TIED CARD OF 'duodecimotop.TopFetched'. -/
def topFetchedCard : Claim7 := { stood := { row := topFetchedRow, standIns := [], harness := (true, "7990592e441478f21e2ab4ddb175fbb522ad99a3ef7de819482cce488bbcecd8"), looks := true }, kinds := [], alts := [], laidByText := true, laidKinds := [.data, .data, .data, .sentinel, .sentinel], laidTests := true, laidLooks := .later }
def TopFetchedCardSaid : Prop := Claim7.holds Tryz.pinned (.plain (OpenSpec.ofChange topFetchedSpec)) topFetchedCard

/-- THE SECOND FORM's CARD OF 'duodecimotop.TopFetched'. -/
def topFetchedUptoCard : Claim7 := { stood := { row := topFetchedUptoRow, standIns := [], harness := (true, "7990592e441478f21e2ab4ddb175fbb522ad99a3ef7de819482cce488bbcecd8"), looks := true }, kinds := [], alts := [], laidByText := true, laidKinds := [.data, .data, .data, .sentinel, .sentinel], laidTests := true, laidLooks := .later }
def TopFetchedUptoCardSaid : Prop := Claim7.holds Tryz.pinned (.plain (OpenSpec.upto topFetchedSpec)) topFetchedUptoCard
end Rows
end Go.Proofs.YtgbbhdoobhdadaaGreatDoor
