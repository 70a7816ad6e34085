/-
  DERIVED. GIVEN WITH THE SEED: THE CARDS: each row of YtlljgbelbfhcjaaGreatDoorRows.lean that lists a variable, with what it lists TIED to the program's text (the seventh form; the later family's looks); each row that meets fmt, with fmt's text TOLD by the authors' own Lean function (tested against real Go, not proved from fmt's source: count such statements apart). THE CARD IS WHAT COUNTS. Prove the row's statement (the work); the ties are given (YtlljgbelbfhcjaaGreatDoorTie.lean); close each card by the builder's one call (the guide's Derived/Test/ToyasCard.lean, 'card_holds'). Laid BY PROGRAM, IN A SANDBOX (cutbox-door.mjs). By AI agents, Wed Nov 11 2026. No macro, syntax, notation, axiom, sorry.
-/
import Derived.Test.YtlljgbelbfhcjaaGreatDoorRows
import GoSem.ClaimSeven
namespace Go.Proofs.YtlljgbelbfhcjaaGreatDoor
namespace Rows

/-- THE TIED CARD OF 'transitlaw48.RejectTexts'. -/
def rejectTextsCard : Claim7 := { stood := { row := rejectTextsRow, standIns := [], harness := (true, "5ee85cc70cf81cdaf63f4c65531163e24bac8b94bcf99d62809c9123e30a98ee"), looks := false }, kinds := [], alts := [], laidByText := true, laidKinds := [.data, .data, .data], laidTests := true, laidLooks := .later }
def RejectTextsCardSaid : Prop := Claim7.holds Tryz.pinned (.plain (OpenSpec.ofChange rejectTextsSpec)) rejectTextsCard

/-- THE SECOND FORM's CARD OF 'transitlaw48.RejectTexts'. -/
def rejectTextsUptoCard : Claim7 := { stood := { row := rejectTextsUptoRow, standIns := [], harness := (true, "5ee85cc70cf81cdaf63f4c65531163e24bac8b94bcf99d62809c9123e30a98ee"), looks := false }, kinds := [], alts := [], laidByText := true, laidKinds := [.data, .data, .data], laidTests := true, laidLooks := .later }
def RejectTextsUptoCardSaid : Prop := Claim7.holds Tryz.pinned (.plain (OpenSpec.upto rejectTextsSpec)) rejectTextsUptoCard
end Rows
end Go.Proofs.YtlljgbelbfhcjaaGreatDoor
