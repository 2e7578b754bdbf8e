/-
  DERIVED. GIVEN WITH THE SEED: THE CARDS: each row of YtljlniehbenefaaDoorRows.lean that lists a variable, with what it lists TIED to the program's text (the seventh form; the later family's looks); each row that meets fmt, with fmt's text TOLD by the authors' own Lean function (tested against real Go, not proved from fmt's source: count such statements apart). THE CARD IS WHAT COUNTS. Prove the row's statement (the work); the ties are given (YtljlniehbenefaaDoorTie.lean); close each card by the builder's one call (the guide's Derived/Test/ToyasCard.lean, 'card_holds'). Laid BY PROGRAM, IN A SANDBOX (cutbox-door.mjs). By AI agents, Wed Nov 11 2026. No macro, syntax, notation, axiom, sorry.
-/
import Derived.Test.YtljlniehbenefaaDoorRows
import GoSem.ClaimSeven
namespace Go.Proofs.YtljlniehbenefaaDoor
namespace Rows

/-- THE TIED CARD OF 'ringkeep4.BindEnough'. -/
def bindEnoughCard : Claim7 := { stood := { row := bindEnoughRow, standIns := [], harness := (true, "377f57c81c8440f8958e6bb39936b3273d86d25188f7a89997ce647fcb0262ab"), looks := false }, kinds := [], alts := [], laidByText := true, laidKinds := [.data, .data, .data], laidTests := true, laidLooks := .later }
def BindEnoughCardSaid : Prop := Claim7.holds Tryd.pinned (.plain (OpenSpec.ofChange bindEnoughSpec)) bindEnoughCard

/-- THE TIED CARD OF 'ringkeep4.BindApart'. -/
def bindApartCard : Claim7 := { stood := { row := bindApartRow, standIns := [], harness := (true, "377f57c81c8440f8958e6bb39936b3273d86d25188f7a89997ce647fcb0262ab"), looks := false }, kinds := [], alts := [], laidByText := true, laidKinds := [.data, .data, .data], laidTests := true, laidLooks := .later }
def BindApartCardSaid : Prop := Claim7.holds Tryd.pinned (.plain (OpenSpec.ofChange bindApartSpec)) bindApartCard

/-- THE TIED CARD OF 'ringkeep4.BindFilled'. -/
def bindFilledCard : Claim7 := { stood := { row := bindFilledRow, standIns := [], harness := (true, "377f57c81c8440f8958e6bb39936b3273d86d25188f7a89997ce647fcb0262ab"), looks := false }, kinds := [], alts := [], laidByText := true, laidKinds := [.data, .data, .data], laidTests := true, laidLooks := .later }
def BindFilledCardSaid : Prop := Claim7.holds Tryd.pinned (.plain (OpenSpec.ofChange bindFilledSpec)) bindFilledCard

/-- THE TIED CARD OF 'ringkeep4.BindKept'. -/
def bindKeptCard : Claim7 := { stood := { row := bindKeptRow, standIns := [], harness := (true, "377f57c81c8440f8958e6bb39936b3273d86d25188f7a89997ce647fcb0262ab"), looks := false }, kinds := [], alts := [], laidByText := true, laidKinds := [.data, .data, .data], laidTests := true, laidLooks := .later }
def BindKeptCardSaid : Prop := Claim7.holds Tryd.pinned (.plain (OpenSpec.ofChange bindKeptSpec)) bindKeptCard

/-- THE TIED CARD OF 'ringkeep4.BindLoads'. -/
def bindLoadsCard : Claim7 := { stood := { row := bindLoadsRow, standIns := [], harness := (true, "377f57c81c8440f8958e6bb39936b3273d86d25188f7a89997ce647fcb0262ab"), looks := false }, kinds := [], alts := [], laidByText := true, laidKinds := [.data, .data, .data], laidTests := true, laidLooks := .later }
def BindLoadsCardSaid : Prop := Claim7.holds Tryd.pinned (.plain (OpenSpec.ofChange bindLoadsSpec)) bindLoadsCard

/-- THE SECOND FORM's CARD OF 'ringkeep4.BindEnough'. -/
def bindEnoughUptoCard : Claim7 := { stood := { row := bindEnoughUptoRow, standIns := [], harness := (true, "377f57c81c8440f8958e6bb39936b3273d86d25188f7a89997ce647fcb0262ab"), looks := false }, kinds := [], alts := [], laidByText := true, laidKinds := [.data, .data, .data], laidTests := true, laidLooks := .later }
def BindEnoughUptoCardSaid : Prop := Claim7.holds Tryd.pinned (.plain (OpenSpec.upto bindEnoughSpec)) bindEnoughUptoCard

/-- THE SECOND FORM's CARD OF 'ringkeep4.BindApart'. -/
def bindApartUptoCard : Claim7 := { stood := { row := bindApartUptoRow, standIns := [], harness := (true, "377f57c81c8440f8958e6bb39936b3273d86d25188f7a89997ce647fcb0262ab"), looks := false }, kinds := [], alts := [], laidByText := true, laidKinds := [.data, .data, .data], laidTests := true, laidLooks := .later }
def BindApartUptoCardSaid : Prop := Claim7.holds Tryd.pinned (.plain (OpenSpec.upto bindApartSpec)) bindApartUptoCard

/-- THE SECOND FORM's CARD OF 'ringkeep4.BindFilled'. -/
def bindFilledUptoCard : Claim7 := { stood := { row := bindFilledUptoRow, standIns := [], harness := (true, "377f57c81c8440f8958e6bb39936b3273d86d25188f7a89997ce647fcb0262ab"), looks := false }, kinds := [], alts := [], laidByText := true, laidKinds := [.data, .data, .data], laidTests := true, laidLooks := .later }
def BindFilledUptoCardSaid : Prop := Claim7.holds Tryd.pinned (.plain (OpenSpec.upto bindFilledSpec)) bindFilledUptoCard

/-- THE SECOND FORM's CARD OF 'ringkeep4.BindKept'. -/
def bindKeptUptoCard : Claim7 := { stood := { row := bindKeptUptoRow, standIns := [], harness := (true, "377f57c81c8440f8958e6bb39936b3273d86d25188f7a89997ce647fcb0262ab"), looks := false }, kinds := [], alts := [], laidByText := true, laidKinds := [.data, .data, .data], laidTests := true, laidLooks := .later }
def BindKeptUptoCardSaid : Prop := Claim7.holds Tryd.pinned (.plain (OpenSpec.upto bindKeptSpec)) bindKeptUptoCard

/-- THE SECOND FORM's CARD OF 'ringkeep4.BindLoads'. -/
def bindLoadsUptoCard : Claim7 := { stood := { row := bindLoadsUptoRow, standIns := [], harness := (true, "377f57c81c8440f8958e6bb39936b3273d86d25188f7a89997ce647fcb0262ab"), looks := false }, kinds := [], alts := [], laidByText := true, laidKinds := [.data, .data, .data], laidTests := true, laidLooks := .later }
def BindLoadsUptoCardSaid : Prop := Claim7.holds Tryd.pinned (.plain (OpenSpec.upto bindLoadsSpec)) bindLoadsUptoCard
end Rows
end Go.Proofs.YtljlniehbenefaaDoor
