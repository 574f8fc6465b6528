/-
  DERIVED. GIVEN WITH THE SEED: THE CARDS: each row of YtjijhjdemkgpgaaDoorRows.lean that lists a variable, with what it lists TIED to the program's text (the seventh form; the later family's looks); each row that meets fmt, with fmt's text TOLD by the authors' own Lean function (tested against real Go, not proved from fmt's source: count such statements apart). THE CARD IS WHAT COUNTS. Prove the row's statement (the work); the ties are given (YtjijhjdemkgpgaaDoorTie.lean); close each card by the builder's one call (the guide's Derived/Test/ToyasCard.lean, 'card_holds'). Laid BY PROGRAM, IN A SANDBOX (cutbox-door.mjs). By AI agents, Wed Nov 11 2026. No macro, syntax, notation, axiom, sorry.
-/
import Derived.Test.YtjijhjdemkgpgaaDoorRows
import GoSem.ClaimSeven
namespace Go.Proofs.YtjijhjdemkgpgaaDoor
namespace Rows

/-- THE TIED CARD OF 'castellanlaw09.IsaBack'. -/
def isaBackCard : Claim7 := { stood := { row := isaBackRow, standIns := [], harness := (true, "2295ba3bb7631f59a242789c0aba88d0796e3211c256f90302b20d5f4b42cf4e"), looks := true }, kinds := [], alts := [], laidByText := true, laidKinds := [.data, .data, .data, .data, .sentinel, .sentinel, .pinned], laidTests := true, laidLooks := .later }
def IsaBackCardSaid : Prop := Claim7.holds Tryd.pinned (.plain (OpenSpec.ofChange isaBackSpec)) isaBackCard

/-- THE TIED CARD OF 'castellanlaw09.IsaLabels'. -/
def isaLabelsCard : Claim7 := { stood := { row := isaLabelsRow, standIns := [], harness := (true, "2295ba3bb7631f59a242789c0aba88d0796e3211c256f90302b20d5f4b42cf4e"), looks := true }, kinds := [], alts := [], laidByText := true, laidKinds := [.data, .data, .data, .data, .sentinel, .sentinel, .pinned], laidTests := true, laidLooks := .later }
def IsaLabelsCardSaid : Prop := Claim7.holds Tryd.pinned (.plain (OpenSpec.ofChange isaLabelsSpec)) isaLabelsCard

/-- THE TIED CARD OF 'castellanlaw09.IsaMoves'. -/
def isaMovesCard : Claim7 := { stood := { row := isaMovesRow, standIns := [], harness := (true, "2295ba3bb7631f59a242789c0aba88d0796e3211c256f90302b20d5f4b42cf4e"), looks := true }, kinds := [], alts := [], laidByText := true, laidKinds := [.data, .data, .data, .data, .sentinel, .sentinel, .pinned], laidTests := true, laidLooks := .later }
def IsaMovesCardSaid : Prop := Claim7.holds Tryd.pinned (.plain (OpenSpec.ofChange isaMovesSpec)) isaMovesCard

/-- THE TIED CARD OF 'castellanlaw09.IsaJoins'. -/
def isaJoinsCard : Claim7 := { stood := { row := isaJoinsRow, standIns := [], harness := (true, "2295ba3bb7631f59a242789c0aba88d0796e3211c256f90302b20d5f4b42cf4e"), looks := true }, kinds := [], alts := [], laidByText := true, laidKinds := [.data, .data, .data, .data, .sentinel, .sentinel, .pinned], laidTests := true, laidLooks := .later }
def IsaJoinsCardSaid : Prop := Claim7.holds Tryd.pinned (.plain (OpenSpec.ofChange isaJoinsSpec)) isaJoinsCard

/-- THE TIED CARD OF 'castellanlaw09.IsaLines'. -/
def isaLinesCard : Claim7 := { stood := { row := isaLinesRow, standIns := [], harness := (true, "2295ba3bb7631f59a242789c0aba88d0796e3211c256f90302b20d5f4b42cf4e"), looks := true }, kinds := [], alts := [], laidByText := true, laidKinds := [.data, .data, .data, .data, .sentinel, .sentinel, .pinned], laidTests := true, laidLooks := .later }
def IsaLinesCardSaid : Prop := Claim7.holds Tryd.pinned (.plain (OpenSpec.ofChange isaLinesSpec)) isaLinesCard

/-- THE SECOND FORM's CARD OF 'castellanlaw09.IsaBack'. -/
def isaBackUptoCard : Claim7 := { stood := { row := isaBackUptoRow, standIns := [], harness := (true, "2295ba3bb7631f59a242789c0aba88d0796e3211c256f90302b20d5f4b42cf4e"), looks := true }, kinds := [], alts := [], laidByText := true, laidKinds := [.data, .data, .data, .data, .sentinel, .sentinel, .pinned], laidTests := true, laidLooks := .later }
def IsaBackUptoCardSaid : Prop := Claim7.holds Tryd.pinned (.plain (OpenSpec.upto isaBackSpec)) isaBackUptoCard

/-- THE SECOND FORM's CARD OF 'castellanlaw09.IsaLabels'. -/
def isaLabelsUptoCard : Claim7 := { stood := { row := isaLabelsUptoRow, standIns := [], harness := (true, "2295ba3bb7631f59a242789c0aba88d0796e3211c256f90302b20d5f4b42cf4e"), looks := true }, kinds := [], alts := [], laidByText := true, laidKinds := [.data, .data, .data, .data, .sentinel, .sentinel, .pinned], laidTests := true, laidLooks := .later }
def IsaLabelsUptoCardSaid : Prop := Claim7.holds Tryd.pinned (.plain (OpenSpec.upto isaLabelsSpec)) isaLabelsUptoCard

/-- THE SECOND FORM's CARD OF 'castellanlaw09.IsaMoves'. -/
def isaMovesUptoCard : Claim7 := { stood := { row := isaMovesUptoRow, standIns := [], harness := (true, "2295ba3bb7631f59a242789c0aba88d0796e3211c256f90302b20d5f4b42cf4e"), looks := true }, kinds := [], alts := [], laidByText := true, laidKinds := [.data, .data, .data, .data, .sentinel, .sentinel, .pinned], laidTests := true, laidLooks := .later }
def IsaMovesUptoCardSaid : Prop := Claim7.holds Tryd.pinned (.plain (OpenSpec.upto isaMovesSpec)) isaMovesUptoCard

/-- THE SECOND FORM's CARD OF 'castellanlaw09.IsaJoins'. -/
def isaJoinsUptoCard : Claim7 := { stood := { row := isaJoinsUptoRow, standIns := [], harness := (true, "2295ba3bb7631f59a242789c0aba88d0796e3211c256f90302b20d5f4b42cf4e"), looks := true }, kinds := [], alts := [], laidByText := true, laidKinds := [.data, .data, .data, .data, .sentinel, .sentinel, .pinned], laidTests := true, laidLooks := .later }
def IsaJoinsUptoCardSaid : Prop := Claim7.holds Tryd.pinned (.plain (OpenSpec.upto isaJoinsSpec)) isaJoinsUptoCard

/-- THE SECOND FORM's CARD OF 'castellanlaw09.IsaLines'. -/
def isaLinesUptoCard : Claim7 := { stood := { row := isaLinesUptoRow, standIns := [], harness := (true, "2295ba3bb7631f59a242789c0aba88d0796e3211c256f90302b20d5f4b42cf4e"), looks := true }, kinds := [], alts := [], laidByText := true, laidKinds := [.data, .data, .data, .data, .sentinel, .sentinel, .pinned], laidTests := true, laidLooks := .later }
def IsaLinesUptoCardSaid : Prop := Claim7.holds Tryd.pinned (.plain (OpenSpec.upto isaLinesSpec)) isaLinesUptoCard
end Rows
end Go.Proofs.YtjijhjdemkgpgaaDoor
