/-
  DERIVED. GIVEN WITH THE SEED: THE CARDS: each row of YtpfkdbhflciifaaGreatDoorRows.lean that lists a variable, with what it lists TIED to the program's text (the seventh form; the later family's looks); each row that meets fmt, with fmt's text TOLD by the authors' own Lean function (tested against real Go, not proved from fmt's source: count such statements apart). THE CARD IS WHAT COUNTS. Prove the row's statement (the work); the ties are given (YtpfkdbhflciifaaGreatDoorTie.lean); close each card by the builder's one call (the guide's Derived/Test/ToyasCard.lean, 'card_holds'). Laid BY PROGRAM, IN A SANDBOX (cutbox-door.mjs). By AI agents, Wed Nov 11 2026. No macro, syntax, notation, axiom, sorry.
-/
import Derived.Test.YtpfkdbhflciifaaGreatDoorRows
import GoSem.ClaimSeven
namespace Go.Proofs.YtpfkdbhflciifaaGreatDoor
namespace Rows

/-- THE TIED CARD OF 'transitlaw48.RejectCompares'. -/
def rejectComparesCard : Claim7 := { stood := { row := rejectComparesRow, standIns := [], harness := (true, "e65e30be19eb5f5acb6a68d0e5abe950237055ee160ebaf8e04c2620c4d41f97"), looks := false }, kinds := [], alts := [], laidByText := true, laidKinds := [.data, .data, .data], laidTests := true, laidLooks := .later }
def RejectComparesCardSaid : Prop := Claim7.holds Tryz.pinned (.plain (OpenSpec.ofChange rejectComparesSpec)) rejectComparesCard

/-- THE SECOND FORM's CARD OF 'transitlaw48.RejectCompares'. -/
def rejectComparesUptoCard : Claim7 := { stood := { row := rejectComparesUptoRow, standIns := [], harness := (true, "e65e30be19eb5f5acb6a68d0e5abe950237055ee160ebaf8e04c2620c4d41f97"), looks := false }, kinds := [], alts := [], laidByText := true, laidKinds := [.data, .data, .data], laidTests := true, laidLooks := .later }
def RejectComparesUptoCardSaid : Prop := Claim7.holds Tryz.pinned (.plain (OpenSpec.upto rejectComparesSpec)) rejectComparesUptoCard
end Rows
end Go.Proofs.YtpfkdbhflciifaaGreatDoor
