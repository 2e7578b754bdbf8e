/-
  DERIVED. GIVEN WITH THE SEED: THE CARDS: each row of YtikbfmjhmjkkgaaDoorRows.lean that lists a variable, with what it lists TIED to the program's text (the seventh form; the later family's looks); each row that meets fmt, with fmt's text TOLD by the authors' own Lean function (tested against real Go, not proved from fmt's source: count such statements apart). THE CARD IS WHAT COUNTS. Prove the row's statement (the work); the ties are given (YtikbfmjhmjkkgaaDoorTie.lean); close each card by the builder's one call (the guide's Derived/Test/ToyasCard.lean, 'card_holds'). Laid BY PROGRAM, IN A SANDBOX (cutbox-door.mjs). By AI agents, Wed Nov 11 2026. No macro, syntax, notation, axiom, sorry.
-/
import Derived.Test.YtikbfmjhmjkkgaaDoorRows
import GoSem.ClaimSeven
namespace Go.Proofs.YtikbfmjhmjkkgaaDoor
namespace Rows

/-- THE TIED CARD OF 'ringkeep4.AsmNear'. -/
def asmNearCard : Claim7 := { stood := { row := asmNearRow, standIns := [], harness := (true, "0810fd494c94712d75c390ff4ef3f84f1a8925ef38d15aab47d5062d8673f17f"), looks := true }, kinds := [], alts := [], laidByText := true, laidKinds := [.data, .data, .data, .data, .sentinel, .sentinel, .listed, .data, .pinned], laidTests := true, laidLooks := .later }
def AsmNearCardSaid : Prop := Claim7.holds Tryd.pinned (.plain (OpenSpec.ofChange asmNearSpec)) asmNearCard

/-- THE TIED CARD OF 'ringkeep4.AsmNeeds'. -/
def asmNeedsCard : Claim7 := { stood := { row := asmNeedsRow, standIns := [], harness := (true, "0810fd494c94712d75c390ff4ef3f84f1a8925ef38d15aab47d5062d8673f17f"), looks := true }, kinds := [], alts := [], laidByText := true, laidKinds := [.data, .data, .data, .data, .sentinel, .sentinel, .listed, .data, .pinned], laidTests := true, laidLooks := .later }
def AsmNeedsCardSaid : Prop := Claim7.holds Tryd.pinned (.plain (OpenSpec.ofChange asmNeedsSpec)) asmNeedsCard

/-- THE TIED CARD OF 'ringkeep4.AsmShown'. -/
def asmShownCard : Claim7 := { stood := { row := asmShownRow, standIns := [], harness := (true, "0810fd494c94712d75c390ff4ef3f84f1a8925ef38d15aab47d5062d8673f17f"), looks := true }, kinds := [], alts := [], laidByText := true, laidKinds := [.data, .data, .data, .data, .sentinel, .sentinel, .listed, .data, .pinned], laidTests := true, laidLooks := .later }
def AsmShownCardSaid : Prop := Claim7.holds Tryd.pinned (.plain (OpenSpec.ofChange asmShownSpec)) asmShownCard

/-- THE TIED CARD OF 'ringkeep4.AsmWrong'. -/
def asmWrongCard : Claim7 := { stood := { row := asmWrongRow, standIns := [], harness := (true, "0810fd494c94712d75c390ff4ef3f84f1a8925ef38d15aab47d5062d8673f17f"), looks := true }, kinds := [], alts := [], laidByText := true, laidKinds := [.data, .data, .data, .data, .sentinel, .sentinel, .listed, .data, .pinned], laidTests := true, laidLooks := .later }
def AsmWrongCardSaid : Prop := Claim7.holds Tryd.pinned (.plain (OpenSpec.ofChange asmWrongSpec)) asmWrongCard

/-- THE SECOND FORM's CARD OF 'ringkeep4.AsmNear'. -/
def asmNearUptoCard : Claim7 := { stood := { row := asmNearUptoRow, standIns := [], harness := (true, "0810fd494c94712d75c390ff4ef3f84f1a8925ef38d15aab47d5062d8673f17f"), looks := true }, kinds := [], alts := [], laidByText := true, laidKinds := [.data, .data, .data, .data, .sentinel, .sentinel, .listed, .data, .pinned], laidTests := true, laidLooks := .later }
def AsmNearUptoCardSaid : Prop := Claim7.holds Tryd.pinned (.plain (OpenSpec.upto asmNearSpec)) asmNearUptoCard

/-- THE SECOND FORM's CARD OF 'ringkeep4.AsmNeeds'. -/
def asmNeedsUptoCard : Claim7 := { stood := { row := asmNeedsUptoRow, standIns := [], harness := (true, "0810fd494c94712d75c390ff4ef3f84f1a8925ef38d15aab47d5062d8673f17f"), looks := true }, kinds := [], alts := [], laidByText := true, laidKinds := [.data, .data, .data, .data, .sentinel, .sentinel, .listed, .data, .pinned], laidTests := true, laidLooks := .later }
def AsmNeedsUptoCardSaid : Prop := Claim7.holds Tryd.pinned (.plain (OpenSpec.upto asmNeedsSpec)) asmNeedsUptoCard

/-- THE SECOND FORM's CARD OF 'ringkeep4.AsmShown'. -/
def asmShownUptoCard : Claim7 := { stood := { row := asmShownUptoRow, standIns := [], harness := (true, "0810fd494c94712d75c390ff4ef3f84f1a8925ef38d15aab47d5062d8673f17f"), looks := true }, kinds := [], alts := [], laidByText := true, laidKinds := [.data, .data, .data, .data, .sentinel, .sentinel, .listed, .data, .pinned], laidTests := true, laidLooks := .later }
def AsmShownUptoCardSaid : Prop := Claim7.holds Tryd.pinned (.plain (OpenSpec.upto asmShownSpec)) asmShownUptoCard

/-- THE SECOND FORM's CARD OF 'ringkeep4.AsmWrong'. -/
def asmWrongUptoCard : Claim7 := { stood := { row := asmWrongUptoRow, standIns := [], harness := (true, "0810fd494c94712d75c390ff4ef3f84f1a8925ef38d15aab47d5062d8673f17f"), looks := true }, kinds := [], alts := [], laidByText := true, laidKinds := [.data, .data, .data, .data, .sentinel, .sentinel, .listed, .data, .pinned], laidTests := true, laidLooks := .later }
def AsmWrongUptoCardSaid : Prop := Claim7.holds Tryd.pinned (.plain (OpenSpec.upto asmWrongSpec)) asmWrongUptoCard
end Rows
end Go.Proofs.YtikbfmjhmjkkgaaDoor
