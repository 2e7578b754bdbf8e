/-
  DERIVED. GIVEN WITH THE SEED: THE CARDS: each row of YthmojneobkaolaaGreatDoorRows.lean that lists a variable, with what it lists TIED to the program's text (the seventh form; the later family's looks); each row that meets fmt, with fmt's text TOLD by the authors' own Lean function (tested against real Go, not proved from fmt's source: count such statements apart). THE CARD IS WHAT COUNTS. Prove the row's statement (the work); the ties are given (YthmojneobkaolaaGreatDoorTie.lean); close each card by the builder's one call (the guide's Derived/Test/ToyasCard.lean, 'card_holds'). Laid BY PROGRAM, IN A SANDBOX (cutbox-door.mjs). By AI agents, Wed Nov 11 2026. No macro, syntax, notation, axiom, sorry.
-/
import Derived.Test.YthmojneobkaolaaGreatDoorRows
import GoSem.ClaimSeven
namespace Go.Proofs.YthmojneobkaolaaGreatDoor
namespace Rows

/-- THE TIED CARD OF 'ringtop.TopSleepers'. -/
def topSleepersCard : Claim7 := { stood := { row := topSleepersRow, standIns := [], harness := (true, "b40f4f8f44aaa0a9cdfa39e1cf483ba2b9e8f572719b6209dad9b99415ecdb3e"), looks := false }, kinds := [], alts := [], laidByText := true, laidKinds := [.data, .pinned], laidTests := true, laidLooks := .later }
def TopSleepersCardSaid : Prop := Claim7.holds Tryz.pinned (.plain (OpenSpec.ofChange topSleepersSpec)) topSleepersCard

/-- THE SECOND FORM's CARD OF 'ringtop.TopSleepers'. -/
def topSleepersUptoCard : Claim7 := { stood := { row := topSleepersUptoRow, standIns := [], harness := (true, "b40f4f8f44aaa0a9cdfa39e1cf483ba2b9e8f572719b6209dad9b99415ecdb3e"), looks := false }, kinds := [], alts := [], laidByText := true, laidKinds := [.data, .pinned], laidTests := true, laidLooks := .later }
def TopSleepersUptoCardSaid : Prop := Claim7.holds Tryz.pinned (.plain (OpenSpec.upto topSleepersSpec)) topSleepersUptoCard
end Rows
end Go.Proofs.YthmojneobkaolaaGreatDoor
