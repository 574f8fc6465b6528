/-
  DERIVED. GIVEN WITH THE SEED: THE CARDS: each row of YtkjahokffpihmaaDoorRows.lean that lists a variable, with what it lists TIED to the program's text (the seventh form; the later family's looks); each row that meets fmt, with fmt's text TOLD by the authors' own Lean function (tested against real Go, not proved from fmt's source: count such statements apart). THE CARD IS WHAT COUNTS. Prove the row's statement (the work); the ties are given (YtkjahokffpihmaaDoorTie.lean); close each card by the builder's one call (the guide's Derived/Test/ToyasCard.lean, 'card_holds'). Laid BY PROGRAM, IN A SANDBOX (cutbox-door.mjs). By AI agents, Wed Nov 11 2026. No macro, syntax, notation, axiom, sorry.
-/
import Derived.Test.YtkjahokffpihmaaDoorRows
import GoSem.ClaimSeven
namespace Go.Proofs.YtkjahokffpihmaaDoor
namespace Rows

/-- THE TIED CARD OF 'castellanlaw22.ConsoleGuards'. -/
def consoleGuardsCard : Claim7 := { stood := { row := consoleGuardsRow, standIns := [], harness := (true, "782ae09d00682d160d28dff34c1bc6515fd8a9ff224760a997032b37563064b5"), looks := false }, kinds := [], alts := [], laidByText := true, laidKinds := [.data, .data, .data], laidTests := true, laidLooks := .later }
def ConsoleGuardsCardSaid : Prop := Claim7.holds Tryd.pinned (.plain (OpenSpec.ofChange consoleGuardsSpec)) consoleGuardsCard

/-- THE TIED CARD OF 'castellanlaw22.ConsoleScrolls'. -/
def consoleScrollsCard : Claim7 := { stood := { row := consoleScrollsRow, standIns := [], harness := (true, "782ae09d00682d160d28dff34c1bc6515fd8a9ff224760a997032b37563064b5"), looks := false }, kinds := [], alts := [], laidByText := true, laidKinds := [.data, .data, .data], laidTests := true, laidLooks := .later }
def ConsoleScrollsCardSaid : Prop := Claim7.holds Tryd.pinned (.plain (OpenSpec.ofChange consoleScrollsSpec)) consoleScrollsCard

/-- THE TIED CARD OF 'castellanlaw22.ConsoleTypes'. -/
def consoleTypesCard : Claim7 := { stood := { row := consoleTypesRow, standIns := [], harness := (true, "782ae09d00682d160d28dff34c1bc6515fd8a9ff224760a997032b37563064b5"), looks := false }, kinds := [], alts := [], laidByText := true, laidKinds := [.data, .data, .data], laidTests := true, laidLooks := .later }
def ConsoleTypesCardSaid : Prop := Claim7.holds Tryd.pinned (.plain (OpenSpec.ofChange consoleTypesSpec)) consoleTypesCard

/-- THE TIED CARD OF 'castellanlaw22.ConsoleBanner'. -/
def consoleBannerCard : Claim7 := { stood := { row := consoleBannerRow, standIns := [], harness := (true, "782ae09d00682d160d28dff34c1bc6515fd8a9ff224760a997032b37563064b5"), looks := false }, kinds := [], alts := [], laidByText := true, laidKinds := [.data, .data, .data], laidTests := true, laidLooks := .later }
def ConsoleBannerCardSaid : Prop := Claim7.holds Tryd.pinned (.plain (OpenSpec.ofChange consoleBannerSpec)) consoleBannerCard

/-- THE TIED CARD OF 'castellanlaw22.ConsoleDoes'. -/
def consoleDoesCard : Claim7 := { stood := { row := consoleDoesRow, standIns := [], harness := (true, "782ae09d00682d160d28dff34c1bc6515fd8a9ff224760a997032b37563064b5"), looks := false }, kinds := [], alts := [], laidByText := true, laidKinds := [.data, .data, .data], laidTests := true, laidLooks := .later }
def ConsoleDoesCardSaid : Prop := Claim7.holds Tryd.pinned (.plain (OpenSpec.ofChange consoleDoesSpec)) consoleDoesCard

/-- THE TIED CARD OF 'castellanlaw22.ConsoleHides'. -/
def consoleHidesCard : Claim7 := { stood := { row := consoleHidesRow, standIns := [], harness := (true, "782ae09d00682d160d28dff34c1bc6515fd8a9ff224760a997032b37563064b5"), looks := false }, kinds := [], alts := [], laidByText := true, laidKinds := [.data, .data, .data], laidTests := true, laidLooks := .later }
def ConsoleHidesCardSaid : Prop := Claim7.holds Tryd.pinned (.plain (OpenSpec.ofChange consoleHidesSpec)) consoleHidesCard

/-- THE SECOND FORM's CARD OF 'castellanlaw22.ConsoleGuards'. -/
def consoleGuardsUptoCard : Claim7 := { stood := { row := consoleGuardsUptoRow, standIns := [], harness := (true, "782ae09d00682d160d28dff34c1bc6515fd8a9ff224760a997032b37563064b5"), looks := false }, kinds := [], alts := [], laidByText := true, laidKinds := [.data, .data, .data], laidTests := true, laidLooks := .later }
def ConsoleGuardsUptoCardSaid : Prop := Claim7.holds Tryd.pinned (.plain (OpenSpec.upto consoleGuardsSpec)) consoleGuardsUptoCard

/-- THE SECOND FORM's CARD OF 'castellanlaw22.ConsoleScrolls'. -/
def consoleScrollsUptoCard : Claim7 := { stood := { row := consoleScrollsUptoRow, standIns := [], harness := (true, "782ae09d00682d160d28dff34c1bc6515fd8a9ff224760a997032b37563064b5"), looks := false }, kinds := [], alts := [], laidByText := true, laidKinds := [.data, .data, .data], laidTests := true, laidLooks := .later }
def ConsoleScrollsUptoCardSaid : Prop := Claim7.holds Tryd.pinned (.plain (OpenSpec.upto consoleScrollsSpec)) consoleScrollsUptoCard

/-- THE SECOND FORM's CARD OF 'castellanlaw22.ConsoleTypes'. -/
def consoleTypesUptoCard : Claim7 := { stood := { row := consoleTypesUptoRow, standIns := [], harness := (true, "782ae09d00682d160d28dff34c1bc6515fd8a9ff224760a997032b37563064b5"), looks := false }, kinds := [], alts := [], laidByText := true, laidKinds := [.data, .data, .data], laidTests := true, laidLooks := .later }
def ConsoleTypesUptoCardSaid : Prop := Claim7.holds Tryd.pinned (.plain (OpenSpec.upto consoleTypesSpec)) consoleTypesUptoCard

/-- THE SECOND FORM's CARD OF 'castellanlaw22.ConsoleBanner'. -/
def consoleBannerUptoCard : Claim7 := { stood := { row := consoleBannerUptoRow, standIns := [], harness := (true, "782ae09d00682d160d28dff34c1bc6515fd8a9ff224760a997032b37563064b5"), looks := false }, kinds := [], alts := [], laidByText := true, laidKinds := [.data, .data, .data], laidTests := true, laidLooks := .later }
def ConsoleBannerUptoCardSaid : Prop := Claim7.holds Tryd.pinned (.plain (OpenSpec.upto consoleBannerSpec)) consoleBannerUptoCard

/-- THE SECOND FORM's CARD OF 'castellanlaw22.ConsoleDoes'. -/
def consoleDoesUptoCard : Claim7 := { stood := { row := consoleDoesUptoRow, standIns := [], harness := (true, "782ae09d00682d160d28dff34c1bc6515fd8a9ff224760a997032b37563064b5"), looks := false }, kinds := [], alts := [], laidByText := true, laidKinds := [.data, .data, .data], laidTests := true, laidLooks := .later }
def ConsoleDoesUptoCardSaid : Prop := Claim7.holds Tryd.pinned (.plain (OpenSpec.upto consoleDoesSpec)) consoleDoesUptoCard

/-- THE SECOND FORM's CARD OF 'castellanlaw22.ConsoleHides'. -/
def consoleHidesUptoCard : Claim7 := { stood := { row := consoleHidesUptoRow, standIns := [], harness := (true, "782ae09d00682d160d28dff34c1bc6515fd8a9ff224760a997032b37563064b5"), looks := false }, kinds := [], alts := [], laidByText := true, laidKinds := [.data, .data, .data], laidTests := true, laidLooks := .later }
def ConsoleHidesUptoCardSaid : Prop := Claim7.holds Tryd.pinned (.plain (OpenSpec.upto consoleHidesSpec)) consoleHidesUptoCard
end Rows
end Go.Proofs.YtkjahokffpihmaaDoor
