/-
  DERIVED. GIVEN WITH THE SEED: THE CARDS: each row of YtekijkdgmfdnbaaDoorRows.lean that lists a variable, with what it lists TIED to the program's text (the seventh form; the later family's looks); each row that meets fmt, with fmt's text TOLD by the authors' own Lean function (tested against real Go, not proved from fmt's source: count such statements apart). THE CARD IS WHAT COUNTS. Prove the row's statement (the work); the ties are given (YtekijkdgmfdnbaaDoorTie.lean); close each card by the builder's one call (the guide's Derived/Test/ToyasCard.lean, 'card_holds'). Laid BY PROGRAM, IN A SANDBOX (cutbox-door.mjs). By AI agents, Wed Nov 11 2026. No macro, syntax, notation, axiom, sorry.
-/
import Derived.Test.YtekijkdgmfdnbaaDoorRows
import GoSem.ClaimSeven
namespace Go.Proofs.YtekijkdgmfdnbaaDoor
namespace Rows

/-- THE TIED CARD OF 'ringkeep4.ObjTorn'. -/
def objTornCard : Claim7 := { stood := { row := objTornRow, standIns := [], harness := (true, "d35d33b84092580fd37a938bc2a89f0ee998bc891c6e872edd1d3c1461959b68"), looks := false }, kinds := [], alts := [], laidByText := true, laidKinds := [.data, .data, .data], laidTests := true, laidLooks := .later }
def ObjTornCardSaid : Prop := Claim7.holds Tryd.pinned (.plain (OpenSpec.ofChange objTornSpec)) objTornCard

/-- THE TIED CARD OF 'ringkeep4.ObjTurned'. -/
def objTurnedCard : Claim7 := { stood := { row := objTurnedRow, standIns := [], harness := (true, "d35d33b84092580fd37a938bc2a89f0ee998bc891c6e872edd1d3c1461959b68"), looks := false }, kinds := [], alts := [], laidByText := true, laidKinds := [.data, .data, .data], laidTests := true, laidLooks := .later }
def ObjTurnedCardSaid : Prop := Claim7.holds Tryd.pinned (.plain (OpenSpec.ofChange objTurnedSpec)) objTurnedCard

/-- THE TIED CARD OF 'ringkeep4.ObjBack'. -/
def objBackCard : Claim7 := { stood := { row := objBackRow, standIns := [], harness := (true, "d35d33b84092580fd37a938bc2a89f0ee998bc891c6e872edd1d3c1461959b68"), looks := false }, kinds := [], alts := [], laidByText := true, laidKinds := [.data, .data, .data], laidTests := true, laidLooks := .later }
def ObjBackCardSaid : Prop := Claim7.holds Tryd.pinned (.plain (OpenSpec.ofChange objBackSpec)) objBackCard

/-- THE SECOND FORM's CARD OF 'ringkeep4.ObjTorn'. -/
def objTornUptoCard : Claim7 := { stood := { row := objTornUptoRow, standIns := [], harness := (true, "d35d33b84092580fd37a938bc2a89f0ee998bc891c6e872edd1d3c1461959b68"), looks := false }, kinds := [], alts := [], laidByText := true, laidKinds := [.data, .data, .data], laidTests := true, laidLooks := .later }
def ObjTornUptoCardSaid : Prop := Claim7.holds Tryd.pinned (.plain (OpenSpec.upto objTornSpec)) objTornUptoCard

/-- THE SECOND FORM's CARD OF 'ringkeep4.ObjTurned'. -/
def objTurnedUptoCard : Claim7 := { stood := { row := objTurnedUptoRow, standIns := [], harness := (true, "d35d33b84092580fd37a938bc2a89f0ee998bc891c6e872edd1d3c1461959b68"), looks := false }, kinds := [], alts := [], laidByText := true, laidKinds := [.data, .data, .data], laidTests := true, laidLooks := .later }
def ObjTurnedUptoCardSaid : Prop := Claim7.holds Tryd.pinned (.plain (OpenSpec.upto objTurnedSpec)) objTurnedUptoCard

/-- THE SECOND FORM's CARD OF 'ringkeep4.ObjBack'. -/
def objBackUptoCard : Claim7 := { stood := { row := objBackUptoRow, standIns := [], harness := (true, "d35d33b84092580fd37a938bc2a89f0ee998bc891c6e872edd1d3c1461959b68"), looks := false }, kinds := [], alts := [], laidByText := true, laidKinds := [.data, .data, .data], laidTests := true, laidLooks := .later }
def ObjBackUptoCardSaid : Prop := Claim7.holds Tryd.pinned (.plain (OpenSpec.upto objBackSpec)) objBackUptoCard
end Rows
end Go.Proofs.YtekijkdgmfdnbaaDoor
