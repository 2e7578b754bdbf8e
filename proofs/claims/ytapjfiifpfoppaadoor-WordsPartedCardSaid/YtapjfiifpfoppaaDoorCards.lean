/-
  DERIVED. GIVEN WITH THE SEED: THE CARDS: each row of YtapjfiifpfoppaaDoorRows.lean that lists a variable, with what it lists TIED to the program's text (the seventh form; the later family's looks); each row that meets fmt, with fmt's text TOLD by the authors' own Lean function (tested against real Go, not proved from fmt's source: count such statements apart). THE CARD IS WHAT COUNTS. Prove the row's statement (the work); the ties are given (YtapjfiifpfoppaaDoorTie.lean); close each card by the builder's one call (the guide's Derived/Test/ToyasCard.lean, 'card_holds'). Laid BY PROGRAM, IN A SANDBOX (cutbox-door.mjs). By AI agents, Wed Nov 11 2026. No macro, syntax, notation, axiom, sorry.
-/
import Derived.Test.YtapjfiifpfoppaaDoorRows
import GoSem.ClaimSeven
namespace Go.Proofs.YtapjfiifpfoppaaDoor
namespace Rows

/-- THE TIED CARD OF 'ringkeep4.WordsParted'. -/
def wordsPartedCard : Claim7 := { stood := { row := wordsPartedRow, standIns := [], harness := (true, "2470b0da5357672bf0b4742595642640ebbb6452f7a64800e3f6e2efefb897cb"), looks := false }, kinds := [], alts := [], laidByText := true, laidKinds := [.data, .data, .data], laidTests := true, laidLooks := .later }
def WordsPartedCardSaid : Prop := Claim7.holds Tryd.pinned (.plain (OpenSpec.ofChange wordsPartedSpec)) wordsPartedCard

/-- THE TIED CARD OF 'ringkeep4.WordsBack'. -/
def wordsBackCard : Claim7 := { stood := { row := wordsBackRow, standIns := [], harness := (true, "2470b0da5357672bf0b4742595642640ebbb6452f7a64800e3f6e2efefb897cb"), looks := false }, kinds := [], alts := [], laidByText := true, laidKinds := [.data, .pinned], laidTests := true, laidLooks := .later }
def WordsBackCardSaid : Prop := Claim7.holds Tryd.pinned (.plain (OpenSpec.ofChange wordsBackSpec)) wordsBackCard

/-- THE TIED CARD OF 'ringkeep4.WordsQuoted'. -/
def wordsQuotedCard : Claim7 := { stood := { row := wordsQuotedRow, standIns := [], harness := (true, "2470b0da5357672bf0b4742595642640ebbb6452f7a64800e3f6e2efefb897cb"), looks := false }, kinds := [], alts := [], laidByText := true, laidKinds := [.data, .data, .data, .data, .pinned], laidTests := true, laidLooks := .later }
def WordsQuotedCardSaid : Prop := Claim7.holds Tryd.pinned (.plain (OpenSpec.ofChange wordsQuotedSpec)) wordsQuotedCard

/-- THE SECOND FORM's CARD OF 'ringkeep4.WordsParted'. -/
def wordsPartedUptoCard : Claim7 := { stood := { row := wordsPartedUptoRow, standIns := [], harness := (true, "2470b0da5357672bf0b4742595642640ebbb6452f7a64800e3f6e2efefb897cb"), looks := false }, kinds := [], alts := [], laidByText := true, laidKinds := [.data, .data, .data], laidTests := true, laidLooks := .later }
def WordsPartedUptoCardSaid : Prop := Claim7.holds Tryd.pinned (.plain (OpenSpec.upto wordsPartedSpec)) wordsPartedUptoCard

/-- THE SECOND FORM's CARD OF 'ringkeep4.WordsBack'. -/
def wordsBackUptoCard : Claim7 := { stood := { row := wordsBackUptoRow, standIns := [], harness := (true, "2470b0da5357672bf0b4742595642640ebbb6452f7a64800e3f6e2efefb897cb"), looks := false }, kinds := [], alts := [], laidByText := true, laidKinds := [.data, .pinned], laidTests := true, laidLooks := .later }
def WordsBackUptoCardSaid : Prop := Claim7.holds Tryd.pinned (.plain (OpenSpec.upto wordsBackSpec)) wordsBackUptoCard

/-- THE SECOND FORM's CARD OF 'ringkeep4.WordsQuoted'. -/
def wordsQuotedUptoCard : Claim7 := { stood := { row := wordsQuotedUptoRow, standIns := [], harness := (true, "2470b0da5357672bf0b4742595642640ebbb6452f7a64800e3f6e2efefb897cb"), looks := false }, kinds := [], alts := [], laidByText := true, laidKinds := [.data, .data, .data, .data, .pinned], laidTests := true, laidLooks := .later }
def WordsQuotedUptoCardSaid : Prop := Claim7.holds Tryd.pinned (.plain (OpenSpec.upto wordsQuotedSpec)) wordsQuotedUptoCard
end Rows
end Go.Proofs.YtapjfiifpfoppaaDoor
