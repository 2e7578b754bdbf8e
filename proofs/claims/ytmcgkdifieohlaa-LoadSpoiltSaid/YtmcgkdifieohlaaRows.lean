/-
  No cell of these rows narrows 'for every input' (looked for: loops, veiled, ifaces, maps, wideKeys, modest, calm, conditions, laid).
  DERIVED. THE GIVEN ROWS OF THIS SEAT. 4 by the template 'for every input the law returns true; each argument reads behind the call as it read before'; 0 by the template 'total and deterministic' (their statements: YtmcgkdifieohlaaTotals.lean).
  GIVEN WITH THE SEED: the statements are not yours to turn. If you find one false, say at which input.
  Laid BY PROGRAM, IN A SANDBOX (cutbox-rows.mjs): the forced cells as the released guide's own fill.sh prints them over the translation b47500515b4ea98b… (all of the seat's roots in one cut). By AI agents, Wed Nov 11 2026. No macro, syntax, notation, axiom, sorry.
-/
import Derived.Test.YtmcgkdifieohlaaChecked
import GoSem.Claim
import GoSem.ClaimJoined
import GoSem.ClaimMapViews
import Derived.JoinedTies
import Derived.KernelRfl
namespace Go.Proofs.Ytmcgkdifieohlaa
/- THE CELL 'sum', in the pinned program and in every row, IS THE sha256 OF THE DUMP (.gsa) THAT YtmcgkdifieohlaaProg.lean LOADS. Nothing in Lean hashes anything: it is a label: what it is worth is what the hold of that sum in a sandbox is worth. -/
noncomputable def Try.pinned : Pinned := { name := "ytmcgkdifieohlaa", sum := "b47500515b4ea98be9e40351ed7b9dbf0cbbbda2c813bcdadfdb97e250df6a9b", checked := Try.checked }
namespace Rows
def none {H : Type} : Left H := { results := [], args := [] }

/-- 'ringkeep4.AsmPlaced': WHATEVER THE INPUT: true; the input reads as it did. -/
def asmPlacedSpec : ChangeSpec := { name := "asmPlaced", fn := fun _ => fun
  | [d1, d2, d3] => { results := [.lit (.bool true)], args := [d1, d2, d3] }
  | _ => none }
def asmPlacedRow : OpenClaim := { program := "ytmcgkdifieohlaa", sum := "b47500515b4ea98be9e40351ed7b9dbf0cbbbda2c813bcdadfdb97e250df6a9b", func := "ringhall/ringkeep4.AsmPlaced", spec := "asmPlaced", apart := false }
def AsmPlacedSaid : Prop := asmPlacedRow.holds Try.pinned (OpenSpec.ofChange asmPlacedSpec)

/-- ITS FALSE NEIGHBOUR: 'it returns false'. Refute it at one input. -/
def asmPlacedWrong : ChangeSpec := { name := "asmPlaced", fn := fun _ => fun
  | [d1, d2, d3] => { results := [.lit (.bool false)], args := [d1, d2, d3] }
  | _ => none }
def AsmPlacedWrongFalsely : Prop := asmPlacedRow.holds Try.pinned (OpenSpec.ofChange asmPlacedWrong)

/-- 'ringkeep4.LoadBytes': WHATEVER THE INPUT: true; the input reads as it did. -/
def loadBytesSpec : ChangeSpec := { name := "loadBytes", fn := fun _ => fun
  | [d1, d2] => { results := [.lit (.bool true)], args := [d1, d2] }
  | _ => none }
def loadBytesRow : OpenClaim := { program := "ytmcgkdifieohlaa", sum := "b47500515b4ea98be9e40351ed7b9dbf0cbbbda2c813bcdadfdb97e250df6a9b", func := "ringhall/ringkeep4.LoadBytes", spec := "loadBytes", apart := false }
def LoadBytesSaid : Prop := loadBytesRow.holds Try.pinned (OpenSpec.ofChange loadBytesSpec)

/-- ITS FALSE NEIGHBOUR: 'it returns false'. Refute it at one input. -/
def loadBytesWrong : ChangeSpec := { name := "loadBytes", fn := fun _ => fun
  | [d1, d2] => { results := [.lit (.bool false)], args := [d1, d2] }
  | _ => none }
def LoadBytesWrongFalsely : Prop := loadBytesRow.holds Try.pinned (OpenSpec.ofChange loadBytesWrong)

/-- 'ringkeep4.LoadTurned': WHATEVER THE INPUT: true; the input reads as it did. -/
def loadTurnedSpec : ChangeSpec := { name := "loadTurned", fn := fun _ => fun
  | [d1, d2] => { results := [.lit (.bool true)], args := [d1, d2] }
  | _ => none }
def loadTurnedRow : OpenClaim := { program := "ytmcgkdifieohlaa", sum := "b47500515b4ea98be9e40351ed7b9dbf0cbbbda2c813bcdadfdb97e250df6a9b", func := "ringhall/ringkeep4.LoadTurned", spec := "loadTurned", apart := false }
def LoadTurnedSaid : Prop := loadTurnedRow.holds Try.pinned (OpenSpec.ofChange loadTurnedSpec)

/-- ITS FALSE NEIGHBOUR: 'it returns false'. Refute it at one input. -/
def loadTurnedWrong : ChangeSpec := { name := "loadTurned", fn := fun _ => fun
  | [d1, d2] => { results := [.lit (.bool false)], args := [d1, d2] }
  | _ => none }
def LoadTurnedWrongFalsely : Prop := loadTurnedRow.holds Try.pinned (OpenSpec.ofChange loadTurnedWrong)

/-- 'ringkeep4.LoadSpoilt': WHATEVER THE INPUT: true; the input reads as it did. -/
def loadSpoiltSpec : ChangeSpec := { name := "loadSpoilt", fn := fun _ => fun
  | [d1, d2, d3] => { results := [.lit (.bool true)], args := [d1, d2, d3] }
  | _ => none }
def loadSpoiltRow : OpenClaim := { program := "ytmcgkdifieohlaa", sum := "b47500515b4ea98be9e40351ed7b9dbf0cbbbda2c813bcdadfdb97e250df6a9b", func := "ringhall/ringkeep4.LoadSpoilt", spec := "loadSpoilt", apart := false }
def LoadSpoiltSaid : Prop := loadSpoiltRow.holds Try.pinned (OpenSpec.ofChange loadSpoiltSpec)

/-- ITS FALSE NEIGHBOUR: 'it returns false'. Refute it at one input. -/
def loadSpoiltWrong : ChangeSpec := { name := "loadSpoilt", fn := fun _ => fun
  | [d1, d2, d3] => { results := [.lit (.bool false)], args := [d1, d2, d3] }
  | _ => none }
def LoadSpoiltWrongFalsely : Prop := loadSpoiltRow.holds Try.pinned (OpenSpec.ofChange loadSpoiltWrong)

/- THE SECOND FORM. 'bulk': how many values and letters a reading holds, each counted each time it is reached (what is shared counts as often as it is met; a slice's spare places count too). A statement '..UptoSaid' is the law's where the arguments, and the package variables that the reading takes, are together of bulk at most 1048576: NARROWER than '..Said'. Prove '..Said' where nothing that the law and all that it calls make is longer than what came in: it says more and counts as full. Else prove '..UptoSaid'. A law counts once. -/
mutual
def uptoBulk {H : Type} : DataW H → Nat
  | .lit (.string bytes) => bytes.length + 1
  | .lit _ => 1
  | .nil => 1
  | .ptr d => uptoBulk d + 1
  | .slice elems spare => uptoBulkAll elems + uptoBulkAll spare + 1
  | .agg parts => uptoBulkAll parts + 1
  | .iface _ d => uptoBulk d + 1
  | .map entries => uptoBulkEntries entries + 1
  | .held _ => 1
def uptoBulkAll {H : Type} : List (DataW H) → Nat
  | [] => 0
  | d :: r => uptoBulk d + uptoBulkAll r
def uptoBulkEntries {H : Type} : List (Lit × DataW H) → Nat
  | [] => 0
  | x :: r => uptoBulkEntry x + uptoBulkEntries r
def uptoBulkEntry {H : Type} : Lit × DataW H → Nat
  | (.string bytes, d) => bytes.length + uptoBulk d + 1
  | (_, d) => uptoBulk d + 1
 end
def uptoSmall : (H : Type) → List (DataW H) → Bool := fun _ ds => decide (uptoBulkAll ds ≤ 1048576)
def OpenSpec.upto (s : _root_.Go.ChangeSpec) : _root_.Go.OpenSpec := { _root_.Go.OpenSpec.ofChange s with cond := some uptoSmall }

/-- 'ringkeep4.AsmPlaced', WHERE WHAT IT READS IS OF BULK AT MOST 1048576: true; the input reads as it did. -/
def asmPlacedUptoRow : OpenClaim := { program := "ytmcgkdifieohlaa", sum := "b47500515b4ea98be9e40351ed7b9dbf0cbbbda2c813bcdadfdb97e250df6a9b", func := "ringhall/ringkeep4.AsmPlaced", spec := "asmPlaced", apart := false, narrowed := true }
def AsmPlacedUptoSaid : Prop := asmPlacedUptoRow.holds Try.pinned (OpenSpec.upto asmPlacedSpec)

/-- 'ringkeep4.LoadBytes', WHERE WHAT IT READS IS OF BULK AT MOST 1048576: true; the input reads as it did. -/
def loadBytesUptoRow : OpenClaim := { program := "ytmcgkdifieohlaa", sum := "b47500515b4ea98be9e40351ed7b9dbf0cbbbda2c813bcdadfdb97e250df6a9b", func := "ringhall/ringkeep4.LoadBytes", spec := "loadBytes", apart := false, narrowed := true }
def LoadBytesUptoSaid : Prop := loadBytesUptoRow.holds Try.pinned (OpenSpec.upto loadBytesSpec)

/-- 'ringkeep4.LoadTurned', WHERE WHAT IT READS IS OF BULK AT MOST 1048576: true; the input reads as it did. -/
def loadTurnedUptoRow : OpenClaim := { program := "ytmcgkdifieohlaa", sum := "b47500515b4ea98be9e40351ed7b9dbf0cbbbda2c813bcdadfdb97e250df6a9b", func := "ringhall/ringkeep4.LoadTurned", spec := "loadTurned", apart := false, narrowed := true }
def LoadTurnedUptoSaid : Prop := loadTurnedUptoRow.holds Try.pinned (OpenSpec.upto loadTurnedSpec)

/-- 'ringkeep4.LoadSpoilt', WHERE WHAT IT READS IS OF BULK AT MOST 1048576: true; the input reads as it did. -/
def loadSpoiltUptoRow : OpenClaim := { program := "ytmcgkdifieohlaa", sum := "b47500515b4ea98be9e40351ed7b9dbf0cbbbda2c813bcdadfdb97e250df6a9b", func := "ringhall/ringkeep4.LoadSpoilt", spec := "loadSpoilt", apart := false, narrowed := true }
def LoadSpoiltUptoSaid : Prop := loadSpoiltUptoRow.holds Try.pinned (OpenSpec.upto loadSpoiltSpec)

end Rows
end Go.Proofs.Ytmcgkdifieohlaa
