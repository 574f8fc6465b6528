/-
  DERIVED. GIVEN WITH THE SEED: THE CARDS: each row of YtbmaecdlkchkeaaGreatDoorRows.lean that lists a variable, with what it lists TIED to the program's text (the seventh form; the later family's looks); each row that meets fmt, with fmt's text TOLD by the authors' own Lean function (tested against real Go, not proved from fmt's source: count such statements apart). THE CARD IS WHAT COUNTS. Prove the row's statement (the work); the ties are given (YtbmaecdlkchkeaaGreatDoorTie.lean); close each card by the builder's one call (the guide's Derived/Test/ToyasCard.lean, 'card_holds'). Laid BY PROGRAM, IN A SANDBOX (cutbox-door.mjs). By AI agents, Wed Nov 11 2026. No macro, syntax, notation, axiom, sorry.
-/
import Derived.Test.YtbmaecdlkchkeaaGreatDoorRows
import GoSem.ClaimSeven
namespace Go.Proofs.YtbmaecdlkchkeaaGreatDoor
namespace Rows

/-- THE TIED CARD OF 'castellantop.TopRuns'. -/
def topRunsCard : Claim7 := { stood := { row := topRunsRow, standIns := [], harness := (true, "458f308855edef1dd83594acbf354d43c856fac8ae93c05b47b5080d4c6dc936"), looks := true }, kinds := [], alts := [], laidByText := true, laidKinds := [.data, .data, .data, .data, .sentinel, .sentinel, .pinned], laidTests := true, laidLooks := .later }
def TopRunsCardSaid : Prop := Claim7.holds Tryz.pinned (.plain (OpenSpec.ofChange topRunsSpec)) topRunsCard

/-- THE SECOND FORM's CARD OF 'castellantop.TopRuns'. -/
def topRunsUptoCard : Claim7 := { stood := { row := topRunsUptoRow, standIns := [], harness := (true, "458f308855edef1dd83594acbf354d43c856fac8ae93c05b47b5080d4c6dc936"), looks := true }, kinds := [], alts := [], laidByText := true, laidKinds := [.data, .data, .data, .data, .sentinel, .sentinel, .pinned], laidTests := true, laidLooks := .later }
def TopRunsUptoCardSaid : Prop := Claim7.holds Tryz.pinned (.plain (OpenSpec.upto topRunsSpec)) topRunsUptoCard
end Rows
end Go.Proofs.YtbmaecdlkchkeaaGreatDoor
