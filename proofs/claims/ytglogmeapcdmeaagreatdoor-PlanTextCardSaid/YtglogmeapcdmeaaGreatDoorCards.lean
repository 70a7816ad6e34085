/-
  DERIVED. GIVEN WITH THE SEED: THE CARDS: each row of YtglogmeapcdmeaaGreatDoorRows.lean that lists a variable, with what it lists TIED to the program's text (the seventh form; the later family's looks); each row that meets fmt, with fmt's text TOLD by the authors' own Lean function (tested against real Go, not proved from fmt's source: count such statements apart). THE CARD IS WHAT COUNTS. Prove the row's statement (the work); the ties are given (YtglogmeapcdmeaaGreatDoorTie.lean); close each card by the builder's one call (the guide's Derived/Test/ToyasCard.lean, 'card_holds'). Laid BY PROGRAM, IN A SANDBOX (cutbox-door.mjs). By AI agents, Wed Nov 11 2026. No macro, syntax, notation, axiom, sorry.
-/
import Derived.Test.YtglogmeapcdmeaaGreatDoorRows
import GoSem.ClaimSeven
namespace Go.Proofs.YtglogmeapcdmeaaGreatDoor
namespace Rows

/-- THE TIED CARD OF 'transitlaw46.PlanText'. -/
def planTextCard : Claim7 := { stood := { row := planTextRow, standIns := [], harness := (true, "6412d759a89450e94c8d6525a2b31e868188af779276ad92e8f03a4dfbbc2145"), looks := false }, kinds := [], alts := [], laidByText := true, laidKinds := [.data, .data, .data], laidTests := true, laidLooks := .later }
def PlanTextCardSaid : Prop := Claim7.holds Tryz.pinned (.plain (OpenSpec.ofChange planTextSpec)) planTextCard

/-- THE SECOND FORM's CARD OF 'transitlaw46.PlanText'. -/
def planTextUptoCard : Claim7 := { stood := { row := planTextUptoRow, standIns := [], harness := (true, "6412d759a89450e94c8d6525a2b31e868188af779276ad92e8f03a4dfbbc2145"), looks := false }, kinds := [], alts := [], laidByText := true, laidKinds := [.data, .data, .data], laidTests := true, laidLooks := .later }
def PlanTextUptoCardSaid : Prop := Claim7.holds Tryz.pinned (.plain (OpenSpec.upto planTextSpec)) planTextUptoCard
end Rows
end Go.Proofs.YtglogmeapcdmeaaGreatDoor
