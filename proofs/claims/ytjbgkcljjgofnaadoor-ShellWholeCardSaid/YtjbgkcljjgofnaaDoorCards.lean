/-
  DERIVED. GIVEN WITH THE SEED: THE CARDS: each row of YtjbgkcljjgofnaaDoorRows.lean that lists a variable, with what it lists TIED to the program's text (the seventh form; the later family's looks); each row that meets fmt, with fmt's text TOLD by the authors' own Lean function (tested against real Go, not proved from fmt's source: count such statements apart). THE CARD IS WHAT COUNTS. Prove the row's statement (the work); the ties are given (YtjbgkcljjgofnaaDoorTie.lean); close each card by the builder's one call (the guide's Derived/Test/ToyasCard.lean, 'card_holds'). Laid BY PROGRAM, IN A SANDBOX (cutbox-door.mjs). By AI agents, Wed Nov 11 2026. No macro, syntax, notation, axiom, sorry.
-/
import Derived.Test.YtjbgkcljjgofnaaDoorRows
import GoSem.ClaimSeven
namespace Go.Proofs.YtjbgkcljjgofnaaDoor
namespace Rows

/-- THE TIED CARD OF 'ringkeep4.ShellBack'. -/
def shellBackCard : Claim7 := { stood := { row := shellBackRow, standIns := [], harness := (true, "44824eef7192ecb5ec936d6929114a1ace18a45f12e022c243b8dd7d57c44531"), looks := false }, kinds := [], alts := [], laidByText := true, laidKinds := [.data, .pinned], laidTests := true, laidLooks := .later }
def ShellBackCardSaid : Prop := Claim7.holds Tryd.pinned (.plain (OpenSpec.ofChange shellBackSpec)) shellBackCard

/-- THE TIED CARD OF 'ringkeep4.ShellWhole'. -/
def shellWholeCard : Claim7 := { stood := { row := shellWholeRow, standIns := [], harness := (true, "44824eef7192ecb5ec936d6929114a1ace18a45f12e022c243b8dd7d57c44531"), looks := false }, kinds := [], alts := [], laidByText := true, laidKinds := [.data, .pinned], laidTests := true, laidLooks := .later }
def ShellWholeCardSaid : Prop := Claim7.holds Tryd.pinned (.plain (OpenSpec.ofChange shellWholeSpec)) shellWholeCard

/-- THE SECOND FORM's CARD OF 'ringkeep4.ShellBack'. -/
def shellBackUptoCard : Claim7 := { stood := { row := shellBackUptoRow, standIns := [], harness := (true, "44824eef7192ecb5ec936d6929114a1ace18a45f12e022c243b8dd7d57c44531"), looks := false }, kinds := [], alts := [], laidByText := true, laidKinds := [.data, .pinned], laidTests := true, laidLooks := .later }
def ShellBackUptoCardSaid : Prop := Claim7.holds Tryd.pinned (.plain (OpenSpec.upto shellBackSpec)) shellBackUptoCard

/-- THE SECOND FORM's CARD OF 'ringkeep4.ShellWhole'. -/
def shellWholeUptoCard : Claim7 := { stood := { row := shellWholeUptoRow, standIns := [], harness := (true, "44824eef7192ecb5ec936d6929114a1ace18a45f12e022c243b8dd7d57c44531"), looks := false }, kinds := [], alts := [], laidByText := true, laidKinds := [.data, .pinned], laidTests := true, laidLooks := .later }
def ShellWholeUptoCardSaid : Prop := Claim7.holds Tryd.pinned (.plain (OpenSpec.upto shellWholeSpec)) shellWholeUptoCard
end Rows
end Go.Proofs.YtjbgkcljjgofnaaDoor
