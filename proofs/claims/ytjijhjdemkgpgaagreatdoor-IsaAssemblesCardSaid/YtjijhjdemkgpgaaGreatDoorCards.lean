/-
  DERIVED. GIVEN WITH THE SEED: THE CARDS: each row of YtjijhjdemkgpgaaGreatDoorRows.lean that lists a variable, with what it lists TIED to the program's text (the seventh form; the later family's looks); each row that meets fmt, with fmt's text TOLD by the authors' own Lean function (tested against real Go, not proved from fmt's source: count such statements apart). THE CARD IS WHAT COUNTS. Prove the row's statement (the work); the ties are given (YtjijhjdemkgpgaaGreatDoorTie.lean); close each card by the builder's one call (the guide's Derived/Test/ToyasCard.lean, 'card_holds'). Laid BY PROGRAM, IN A SANDBOX (cutbox-door.mjs). By AI agents, Wed Nov 11 2026. No macro, syntax, notation, axiom, sorry.
-/
import Derived.Test.YtjijhjdemkgpgaaGreatDoorRows
import GoSem.ClaimSeven
namespace Go.Proofs.YtjijhjdemkgpgaaGreatDoor
namespace Rows

/-- THE TIED CARD OF 'castellanlaw09.IsaCodes'. -/
def isaCodesCard : Claim7 := { stood := { row := isaCodesRow, standIns := [], harness := (true, "6e5b2d21f917adc7b4daf344c090ea80d19608229ce6a9c5f5703a612cbd26f9"), looks := true }, kinds := [], alts := [], laidByText := true, laidKinds := [.data, .data, .data, .data, .sentinel, .sentinel, .pinned], laidTests := true, laidLooks := .later }
def IsaCodesCardSaid : Prop := Claim7.holds Tryz.pinned (.plain (OpenSpec.ofChange isaCodesSpec)) isaCodesCard

/-- THE TIED CARD OF 'castellanlaw09.IsaAssembles'. -/
def isaAssemblesCard : Claim7 := { stood := { row := isaAssemblesRow, standIns := [], harness := (true, "6e5b2d21f917adc7b4daf344c090ea80d19608229ce6a9c5f5703a612cbd26f9"), looks := true }, kinds := [], alts := [], laidByText := true, laidKinds := [.data, .data, .data, .data, .sentinel, .sentinel, .pinned], laidTests := true, laidLooks := .later }
def IsaAssemblesCardSaid : Prop := Claim7.holds Tryz.pinned (.plain (OpenSpec.ofChange isaAssemblesSpec)) isaAssemblesCard

/-- THE TIED CARD OF 'castellanlaw09.IsaLists'. -/
def isaListsCard : Claim7 := { stood := { row := isaListsRow, standIns := [], harness := (true, "6e5b2d21f917adc7b4daf344c090ea80d19608229ce6a9c5f5703a612cbd26f9"), looks := true }, kinds := [], alts := [], laidByText := true, laidKinds := [.data, .data, .data, .data, .sentinel, .sentinel, .pinned], laidTests := true, laidLooks := .later }
def IsaListsCardSaid : Prop := Claim7.holds Tryz.pinned (.plain (OpenSpec.ofChange isaListsSpec)) isaListsCard

/-- THE SECOND FORM's CARD OF 'castellanlaw09.IsaCodes'. -/
def isaCodesUptoCard : Claim7 := { stood := { row := isaCodesUptoRow, standIns := [], harness := (true, "6e5b2d21f917adc7b4daf344c090ea80d19608229ce6a9c5f5703a612cbd26f9"), looks := true }, kinds := [], alts := [], laidByText := true, laidKinds := [.data, .data, .data, .data, .sentinel, .sentinel, .pinned], laidTests := true, laidLooks := .later }
def IsaCodesUptoCardSaid : Prop := Claim7.holds Tryz.pinned (.plain (OpenSpec.upto isaCodesSpec)) isaCodesUptoCard

/-- THE SECOND FORM's CARD OF 'castellanlaw09.IsaAssembles'. -/
def isaAssemblesUptoCard : Claim7 := { stood := { row := isaAssemblesUptoRow, standIns := [], harness := (true, "6e5b2d21f917adc7b4daf344c090ea80d19608229ce6a9c5f5703a612cbd26f9"), looks := true }, kinds := [], alts := [], laidByText := true, laidKinds := [.data, .data, .data, .data, .sentinel, .sentinel, .pinned], laidTests := true, laidLooks := .later }
def IsaAssemblesUptoCardSaid : Prop := Claim7.holds Tryz.pinned (.plain (OpenSpec.upto isaAssemblesSpec)) isaAssemblesUptoCard

/-- THE SECOND FORM's CARD OF 'castellanlaw09.IsaLists'. -/
def isaListsUptoCard : Claim7 := { stood := { row := isaListsUptoRow, standIns := [], harness := (true, "6e5b2d21f917adc7b4daf344c090ea80d19608229ce6a9c5f5703a612cbd26f9"), looks := true }, kinds := [], alts := [], laidByText := true, laidKinds := [.data, .data, .data, .data, .sentinel, .sentinel, .pinned], laidTests := true, laidLooks := .later }
def IsaListsUptoCardSaid : Prop := Claim7.holds Tryz.pinned (.plain (OpenSpec.upto isaListsSpec)) isaListsUptoCard
end Rows
end Go.Proofs.YtjijhjdemkgpgaaGreatDoor
