/-
  DERIVED. GIVEN WITH THE SEED: THE CARDS: each row of YtjmonkacijncbaaGreatDoorRows.lean that lists a variable, with what it lists TIED to the program's text (the seventh form; the later family's looks); each row that meets fmt, with fmt's text TOLD by the authors' own Lean function (tested against real Go, not proved from fmt's source: count such statements apart). THE CARD IS WHAT COUNTS. Prove the row's statement (the work); the ties are given (YtjmonkacijncbaaGreatDoorTie.lean); close each card by the builder's one call (the guide's Derived/Test/ToyasCard.lean, 'card_holds'). Laid BY PROGRAM, IN A SANDBOX (cutbox-door.mjs). By AI agents, Wed Nov 11 2026. No macro, syntax, notation, axiom, sorry.
-/
import Derived.Test.YtjmonkacijncbaaGreatDoorRows
import GoSem.ClaimSeven
namespace Go.Proofs.YtjmonkacijncbaaGreatDoor
namespace Rows

/-- THE TIED CARD OF 'ringkeep4.ToolsParts'. -/
def toolsPartsCard : Claim7 := { stood := { row := toolsPartsRow, standIns := [], harness := (true, "855252b59153360e6ca8a6a52700d9faa9b94044a18c9979b5a3cc1dd5a02ed0"), looks := true }, kinds := [], alts := [], laidByText := true, laidKinds := [.data, .data, .data, .data, .sentinel, .sentinel, .sentinel, .pinned], laidTests := true, laidLooks := .later }
def ToolsPartsCardSaid : Prop := Claim7.holds Tryz.pinned (.plain (OpenSpec.ofChange toolsPartsSpec)) toolsPartsCard

/-- THE TIED CARD OF 'ringkeep4.ToolsOnce'. -/
def toolsOnceCard : Claim7 := { stood := { row := toolsOnceRow, standIns := [], harness := (true, "855252b59153360e6ca8a6a52700d9faa9b94044a18c9979b5a3cc1dd5a02ed0"), looks := true }, kinds := [], alts := [], laidByText := true, laidKinds := [.data, .data, .data, .data, .sentinel, .sentinel, .sentinel, .pinned], laidTests := true, laidLooks := .later }
def ToolsOnceCardSaid : Prop := Claim7.holds Tryz.pinned (.plain (OpenSpec.ofChange toolsOnceSpec)) toolsOnceCard

/-- THE TIED CARD OF 'ringkeep4.ToolsSorted'. -/
def toolsSortedCard : Claim7 := { stood := { row := toolsSortedRow, standIns := [], harness := (true, "855252b59153360e6ca8a6a52700d9faa9b94044a18c9979b5a3cc1dd5a02ed0"), looks := true }, kinds := [], alts := [], laidByText := true, laidKinds := [.data, .data, .data, .data, .sentinel, .sentinel, .sentinel, .pinned], laidTests := true, laidLooks := .later }
def ToolsSortedCardSaid : Prop := Claim7.holds Tryz.pinned (.plain (OpenSpec.ofChange toolsSortedSpec)) toolsSortedCard

/-- THE TIED CARD OF 'ringkeep4.ToolsDriven'. -/
def toolsDrivenCard : Claim7 := { stood := { row := toolsDrivenRow, standIns := [], harness := (true, "855252b59153360e6ca8a6a52700d9faa9b94044a18c9979b5a3cc1dd5a02ed0"), looks := true }, kinds := [], alts := [], laidByText := true, laidKinds := [.data, .data, .data, .data, .sentinel, .sentinel, .sentinel, .pinned], laidTests := true, laidLooks := .later }
def ToolsDrivenCardSaid : Prop := Claim7.holds Tryz.pinned (.plain (OpenSpec.ofChange toolsDrivenSpec)) toolsDrivenCard

/-- THE TIED CARD OF 'ringkeep4.ToolsFail'. -/
def toolsFailCard : Claim7 := { stood := { row := toolsFailRow, standIns := [], harness := (true, "855252b59153360e6ca8a6a52700d9faa9b94044a18c9979b5a3cc1dd5a02ed0"), looks := true }, kinds := [], alts := [], laidByText := true, laidKinds := [.data, .data, .data, .data, .sentinel, .sentinel, .sentinel, .pinned], laidTests := true, laidLooks := .later }
def ToolsFailCardSaid : Prop := Claim7.holds Tryz.pinned (.plain (OpenSpec.ofChange toolsFailSpec)) toolsFailCard

/-- THE SECOND FORM's CARD OF 'ringkeep4.ToolsParts'. -/
def toolsPartsUptoCard : Claim7 := { stood := { row := toolsPartsUptoRow, standIns := [], harness := (true, "855252b59153360e6ca8a6a52700d9faa9b94044a18c9979b5a3cc1dd5a02ed0"), looks := true }, kinds := [], alts := [], laidByText := true, laidKinds := [.data, .data, .data, .data, .sentinel, .sentinel, .sentinel, .pinned], laidTests := true, laidLooks := .later }
def ToolsPartsUptoCardSaid : Prop := Claim7.holds Tryz.pinned (.plain (OpenSpec.upto toolsPartsSpec)) toolsPartsUptoCard

/-- THE SECOND FORM's CARD OF 'ringkeep4.ToolsOnce'. -/
def toolsOnceUptoCard : Claim7 := { stood := { row := toolsOnceUptoRow, standIns := [], harness := (true, "855252b59153360e6ca8a6a52700d9faa9b94044a18c9979b5a3cc1dd5a02ed0"), looks := true }, kinds := [], alts := [], laidByText := true, laidKinds := [.data, .data, .data, .data, .sentinel, .sentinel, .sentinel, .pinned], laidTests := true, laidLooks := .later }
def ToolsOnceUptoCardSaid : Prop := Claim7.holds Tryz.pinned (.plain (OpenSpec.upto toolsOnceSpec)) toolsOnceUptoCard

/-- THE SECOND FORM's CARD OF 'ringkeep4.ToolsSorted'. -/
def toolsSortedUptoCard : Claim7 := { stood := { row := toolsSortedUptoRow, standIns := [], harness := (true, "855252b59153360e6ca8a6a52700d9faa9b94044a18c9979b5a3cc1dd5a02ed0"), looks := true }, kinds := [], alts := [], laidByText := true, laidKinds := [.data, .data, .data, .data, .sentinel, .sentinel, .sentinel, .pinned], laidTests := true, laidLooks := .later }
def ToolsSortedUptoCardSaid : Prop := Claim7.holds Tryz.pinned (.plain (OpenSpec.upto toolsSortedSpec)) toolsSortedUptoCard

/-- THE SECOND FORM's CARD OF 'ringkeep4.ToolsDriven'. -/
def toolsDrivenUptoCard : Claim7 := { stood := { row := toolsDrivenUptoRow, standIns := [], harness := (true, "855252b59153360e6ca8a6a52700d9faa9b94044a18c9979b5a3cc1dd5a02ed0"), looks := true }, kinds := [], alts := [], laidByText := true, laidKinds := [.data, .data, .data, .data, .sentinel, .sentinel, .sentinel, .pinned], laidTests := true, laidLooks := .later }
def ToolsDrivenUptoCardSaid : Prop := Claim7.holds Tryz.pinned (.plain (OpenSpec.upto toolsDrivenSpec)) toolsDrivenUptoCard

/-- THE SECOND FORM's CARD OF 'ringkeep4.ToolsFail'. -/
def toolsFailUptoCard : Claim7 := { stood := { row := toolsFailUptoRow, standIns := [], harness := (true, "855252b59153360e6ca8a6a52700d9faa9b94044a18c9979b5a3cc1dd5a02ed0"), looks := true }, kinds := [], alts := [], laidByText := true, laidKinds := [.data, .data, .data, .data, .sentinel, .sentinel, .sentinel, .pinned], laidTests := true, laidLooks := .later }
def ToolsFailUptoCardSaid : Prop := Claim7.holds Tryz.pinned (.plain (OpenSpec.upto toolsFailSpec)) toolsFailUptoCard
end Rows
end Go.Proofs.YtjmonkacijncbaaGreatDoor
