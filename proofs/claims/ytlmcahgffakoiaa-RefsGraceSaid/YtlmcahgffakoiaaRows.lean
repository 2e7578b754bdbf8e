/-
  No cell of these rows narrows 'for every input' (looked for: loops, veiled, ifaces, maps, wideKeys, modest, calm, conditions, laid).
  DERIVED. THE GIVEN ROWS OF THIS SEAT. 3 by the template 'for every input the law returns true; each argument reads behind the call as it read before'; 0 by the template 'total and deterministic' (their statements: YtlmcahgffakoiaaTotals.lean).
  GIVEN WITH THE SEED: the statements are not yours to turn. If you find one false, say at which input.
  Laid BY PROGRAM, IN A SANDBOX (cutbox-rows.mjs): the forced cells as the released guide's own fill.sh prints them over the translation 3385637a12715a5f… (all of the seat's roots in one cut). By AI agents, Wed Nov 11 2026. No macro, syntax, notation, axiom, sorry.
-/
import Derived.Test.YtlmcahgffakoiaaChecked
import GoSem.Claim
import GoSem.ClaimJoined
import GoSem.ClaimMapViews
import Derived.JoinedTies
import Derived.KernelRfl
namespace Go.Proofs.Ytlmcahgffakoiaa
/- THE CELL 'sum', in the pinned program and in every row, IS THE sha256 OF THE DUMP (.gsa) THAT YtlmcahgffakoiaaProg.lean LOADS. Nothing in Lean hashes anything: it is a label: what it is worth is what the hold of that sum in a sandbox is worth. -/
noncomputable def Try.pinned : Pinned := { name := "ytlmcahgffakoiaa", sum := "3385637a12715a5feee4f31d97e4a3bf7804fce7b0014b7832b3319a1197a7e6", checked := Try.checked }
namespace Rows
def none {H : Type} : Left H := { results := [], args := [] }

/-- 'ringkeep4.RefsGrace': WHATEVER THE INPUT: true; the input reads as it did. -/
def refsGraceSpec : ChangeSpec := { name := "refsGrace", fn := fun _ => fun
  | [d1, d2, d3] => { results := [.lit (.bool true)], args := [d1, d2, d3] }
  | _ => none }
def refsGraceRow : OpenClaim := { program := "ytlmcahgffakoiaa", sum := "3385637a12715a5feee4f31d97e4a3bf7804fce7b0014b7832b3319a1197a7e6", func := "ringhall/ringkeep4.RefsGrace", spec := "refsGrace", apart := false }
def RefsGraceSaid : Prop := refsGraceRow.holds Try.pinned (OpenSpec.ofChange refsGraceSpec)

/-- ITS FALSE NEIGHBOUR: 'it returns false'. Refute it at one input. -/
def refsGraceWrong : ChangeSpec := { name := "refsGrace", fn := fun _ => fun
  | [d1, d2, d3] => { results := [.lit (.bool false)], args := [d1, d2, d3] }
  | _ => none }
def RefsGraceWrongFalsely : Prop := refsGraceRow.holds Try.pinned (OpenSpec.ofChange refsGraceWrong)

/-- 'ringkeep4.RefsClosed': WHATEVER THE INPUT: true; the input reads as it did. -/
def refsClosedSpec : ChangeSpec := { name := "refsClosed", fn := fun _ => fun
  | [d1, d2, d3] => { results := [.lit (.bool true)], args := [d1, d2, d3] }
  | _ => none }
def refsClosedRow : OpenClaim := { program := "ytlmcahgffakoiaa", sum := "3385637a12715a5feee4f31d97e4a3bf7804fce7b0014b7832b3319a1197a7e6", func := "ringhall/ringkeep4.RefsClosed", spec := "refsClosed", apart := false }
def RefsClosedSaid : Prop := refsClosedRow.holds Try.pinned (OpenSpec.ofChange refsClosedSpec)

/-- ITS FALSE NEIGHBOUR: 'it returns false'. Refute it at one input. -/
def refsClosedWrong : ChangeSpec := { name := "refsClosed", fn := fun _ => fun
  | [d1, d2, d3] => { results := [.lit (.bool false)], args := [d1, d2, d3] }
  | _ => none }
def RefsClosedWrongFalsely : Prop := refsClosedRow.holds Try.pinned (OpenSpec.ofChange refsClosedWrong)

/-- 'ringkeep4.RefsLife': WHATEVER THE INPUT: true; the input reads as it did. -/
def refsLifeSpec : ChangeSpec := { name := "refsLife", fn := fun _ => fun
  | [d] => { results := [.lit (.bool true)], args := [d] }
  | _ => none }
def refsLifeRow : OpenClaim := { program := "ytlmcahgffakoiaa", sum := "3385637a12715a5feee4f31d97e4a3bf7804fce7b0014b7832b3319a1197a7e6", func := "ringhall/ringkeep4.RefsLife", spec := "refsLife", apart := false }
def RefsLifeSaid : Prop := refsLifeRow.holds Try.pinned (OpenSpec.ofChange refsLifeSpec)

/-- ITS FALSE NEIGHBOUR: 'it returns false'. Refute it at one input. -/
def refsLifeWrong : ChangeSpec := { name := "refsLife", fn := fun _ => fun
  | [d] => { results := [.lit (.bool false)], args := [d] }
  | _ => none }
def RefsLifeWrongFalsely : Prop := refsLifeRow.holds Try.pinned (OpenSpec.ofChange refsLifeWrong)

/- THE SECOND FORM. 'bulk': how many values and letters a reading holds, each counted each time it is reached (what is shared counts as often as it is met; a slice's spare places count too). A statement '..UptoSaid' is the law's where the arguments, and the package variables that the reading takes, are together of bulk at most 1048576: NARROWER than '..Said'. Prove '..Said' where nothing that the law and all that it calls make is longer than what came in: it says more and counts as full. Else prove '..UptoSaid'. A law counts once. -/
mutual
def uptoBulk {H : Type} : DataW H → Nat
  | .lit (.string bytes) => bytes.length + 1
  | .lit _ => 1
  | .nil => 1
  | .ptr d => uptoBulk d + 1
  | .slice elems spare => uptoBulkAll elems + uptoBulkAll spare + 1
  | .agg parts => uptoBulkAll parts + 1
  | .iface _ d => uptoBulk d + 1
  | .map entries => uptoBulkEntries entries + 1
  | .held _ => 1
def uptoBulkAll {H : Type} : List (DataW H) → Nat
  | [] => 0
  | d :: r => uptoBulk d + uptoBulkAll r
def uptoBulkEntries {H : Type} : List (Lit × DataW H) → Nat
  | [] => 0
  | x :: r => uptoBulkEntry x + uptoBulkEntries r
def uptoBulkEntry {H : Type} : Lit × DataW H → Nat
  | (.string bytes, d) => bytes.length + uptoBulk d + 1
  | (_, d) => uptoBulk d + 1
 end
def uptoSmall : (H : Type) → List (DataW H) → Bool := fun _ ds => decide (uptoBulkAll ds ≤ 1048576)
def OpenSpec.upto (s : _root_.Go.ChangeSpec) : _root_.Go.OpenSpec := { _root_.Go.OpenSpec.ofChange s with cond := some uptoSmall }

/-- 'ringkeep4.RefsGrace', WHERE WHAT IT READS IS OF BULK AT MOST 1048576: true; the input reads as it did. -/
def refsGraceUptoRow : OpenClaim := { program := "ytlmcahgffakoiaa", sum := "3385637a12715a5feee4f31d97e4a3bf7804fce7b0014b7832b3319a1197a7e6", func := "ringhall/ringkeep4.RefsGrace", spec := "refsGrace", apart := false, narrowed := true }
def RefsGraceUptoSaid : Prop := refsGraceUptoRow.holds Try.pinned (OpenSpec.upto refsGraceSpec)

/-- 'ringkeep4.RefsClosed', WHERE WHAT IT READS IS OF BULK AT MOST 1048576: true; the input reads as it did. -/
def refsClosedUptoRow : OpenClaim := { program := "ytlmcahgffakoiaa", sum := "3385637a12715a5feee4f31d97e4a3bf7804fce7b0014b7832b3319a1197a7e6", func := "ringhall/ringkeep4.RefsClosed", spec := "refsClosed", apart := false, narrowed := true }
def RefsClosedUptoSaid : Prop := refsClosedUptoRow.holds Try.pinned (OpenSpec.upto refsClosedSpec)

/-- 'ringkeep4.RefsLife', WHERE WHAT IT READS IS OF BULK AT MOST 1048576: true; the input reads as it did. -/
def refsLifeUptoRow : OpenClaim := { program := "ytlmcahgffakoiaa", sum := "3385637a12715a5feee4f31d97e4a3bf7804fce7b0014b7832b3319a1197a7e6", func := "ringhall/ringkeep4.RefsLife", spec := "refsLife", apart := false, narrowed := true }
def RefsLifeUptoSaid : Prop := refsLifeUptoRow.holds Try.pinned (OpenSpec.upto refsLifeSpec)

end Rows
end Go.Proofs.Ytlmcahgffakoiaa
