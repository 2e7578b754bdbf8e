/-
  No cell of these rows narrows 'for every input' (looked for: loops, veiled, ifaces, maps, wideKeys, modest, calm, conditions, laid).
  DERIVED. THE GIVEN ROWS OF THIS SEAT. 4 by the template 'for every input the law returns true; each argument reads behind the call as it read before'; 0 by the template 'total and deterministic' (their statements: YtnniicmpbcfinaaTotals.lean).
  GIVEN WITH THE SEED: the statements are not yours to turn. If you find one false, say at which input.
  Laid BY PROGRAM, IN A SANDBOX (cutbox-rows.mjs): the forced cells as the released guide's own fill.sh prints them over the translation 178ea8aec35111d9… (all of the seat's roots in one cut). By AI agents, Wed Nov 11 2026. No macro, syntax, notation, axiom, sorry.
-/
import Derived.Test.YtnniicmpbcfinaaChecked
import GoSem.Claim
import GoSem.ClaimJoined
import GoSem.ClaimMapViews
import Derived.JoinedTies
import Derived.KernelRfl
namespace Go.Proofs.Ytnniicmpbcfinaa
/- THE CELL 'sum', in the pinned program and in every row, IS THE sha256 OF THE DUMP (.gsa) THAT YtnniicmpbcfinaaProg.lean LOADS. Nothing in Lean hashes anything: it is a label: what it is worth is what the hold of that sum in a sandbox is worth. -/
noncomputable def Try.pinned : Pinned := { name := "ytnniicmpbcfinaa", sum := "178ea8aec35111d903d4f7a9a4c08488f1b7058a14aa1f0320bfcf349e4995f6", checked := Try.checked }
namespace Rows
def none {H : Type} : Left H := { results := [], args := [] }

/-- 'ringkeep4.SockTalks': WHATEVER THE INPUT: true; the input reads as it did. -/
def sockTalksSpec : ChangeSpec := { name := "sockTalks", fn := fun _ => fun
  | [d1, d2, d3] => { results := [.lit (.bool true)], args := [d1, d2, d3] }
  | _ => none }
def sockTalksRow : OpenClaim := { program := "ytnniicmpbcfinaa", sum := "178ea8aec35111d903d4f7a9a4c08488f1b7058a14aa1f0320bfcf349e4995f6", func := "ringhall/ringkeep4.SockTalks", spec := "sockTalks", apart := false }
def SockTalksSaid : Prop := sockTalksRow.holds Try.pinned (OpenSpec.ofChange sockTalksSpec)

/-- ITS FALSE NEIGHBOUR: 'it returns false'. Refute it at one input. -/
def sockTalksWrong : ChangeSpec := { name := "sockTalks", fn := fun _ => fun
  | [d1, d2, d3] => { results := [.lit (.bool false)], args := [d1, d2, d3] }
  | _ => none }
def SockTalksWrongFalsely : Prop := sockTalksRow.holds Try.pinned (OpenSpec.ofChange sockTalksWrong)

/-- 'ringkeep4.SockTurns': WHATEVER THE INPUT: true; the input reads as it did. -/
def sockTurnsSpec : ChangeSpec := { name := "sockTurns", fn := fun _ => fun
  | [d1, d2, d3] => { results := [.lit (.bool true)], args := [d1, d2, d3] }
  | _ => none }
def sockTurnsRow : OpenClaim := { program := "ytnniicmpbcfinaa", sum := "178ea8aec35111d903d4f7a9a4c08488f1b7058a14aa1f0320bfcf349e4995f6", func := "ringhall/ringkeep4.SockTurns", spec := "sockTurns", apart := false }
def SockTurnsSaid : Prop := sockTurnsRow.holds Try.pinned (OpenSpec.ofChange sockTurnsSpec)

/-- ITS FALSE NEIGHBOUR: 'it returns false'. Refute it at one input. -/
def sockTurnsWrong : ChangeSpec := { name := "sockTurns", fn := fun _ => fun
  | [d1, d2, d3] => { results := [.lit (.bool false)], args := [d1, d2, d3] }
  | _ => none }
def SockTurnsWrongFalsely : Prop := sockTurnsRow.holds Try.pinned (OpenSpec.ofChange sockTurnsWrong)

/-- 'ringkeep4.SockNames': WHATEVER THE INPUT: true; the input reads as it did. -/
def sockNamesSpec : ChangeSpec := { name := "sockNames", fn := fun _ => fun
  | [d] => { results := [.lit (.bool true)], args := [d] }
  | _ => none }
def sockNamesRow : OpenClaim := { program := "ytnniicmpbcfinaa", sum := "178ea8aec35111d903d4f7a9a4c08488f1b7058a14aa1f0320bfcf349e4995f6", func := "ringhall/ringkeep4.SockNames", spec := "sockNames", unfollowed := true, recurses := true, apart := false }
def SockNamesSaid : Prop := sockNamesRow.holds Try.pinned (OpenSpec.ofChange sockNamesSpec)

/-- ITS FALSE NEIGHBOUR: 'it returns false'. Refute it at one input. -/
def sockNamesWrong : ChangeSpec := { name := "sockNames", fn := fun _ => fun
  | [d] => { results := [.lit (.bool false)], args := [d] }
  | _ => none }
def SockNamesWrongFalsely : Prop := sockNamesRow.holds Try.pinned (OpenSpec.ofChange sockNamesWrong)

/-- 'ringkeep4.SockParts': WHATEVER THE INPUT: true; the input reads as it did. -/
def sockPartsSpec : ChangeSpec := { name := "sockParts", fn := fun _ => fun
  | [d1, d2] => { results := [.lit (.bool true)], args := [d1, d2] }
  | _ => none }
def sockPartsRow : OpenClaim := { program := "ytnniicmpbcfinaa", sum := "178ea8aec35111d903d4f7a9a4c08488f1b7058a14aa1f0320bfcf349e4995f6", func := "ringhall/ringkeep4.SockParts", spec := "sockParts", unfollowed := true, recurses := true, apart := false }
def SockPartsSaid : Prop := sockPartsRow.holds Try.pinned (OpenSpec.ofChange sockPartsSpec)

/-- ITS FALSE NEIGHBOUR: 'it returns false'. Refute it at one input. -/
def sockPartsWrong : ChangeSpec := { name := "sockParts", fn := fun _ => fun
  | [d1, d2] => { results := [.lit (.bool false)], args := [d1, d2] }
  | _ => none }
def SockPartsWrongFalsely : Prop := sockPartsRow.holds Try.pinned (OpenSpec.ofChange sockPartsWrong)

/- THE SECOND FORM. 'bulk': how many values and letters a reading holds, each counted each time it is reached (what is shared counts as often as it is met; a slice's spare places count too). A statement '..UptoSaid' is the law's where the arguments, and the package variables that the reading takes, are together of bulk at most 1048576: NARROWER than '..Said'. Prove '..Said' where nothing that the law and all that it calls make is longer than what came in: it says more and counts as full. Else prove '..UptoSaid'. A law counts once. -/
mutual
def uptoBulk {H : Type} : DataW H → Nat
  | .lit (.string bytes) => bytes.length + 1
  | .lit _ => 1
  | .nil => 1
  | .ptr d => uptoBulk d + 1
  | .slice elems spare => uptoBulkAll elems + uptoBulkAll spare + 1
  | .agg parts => uptoBulkAll parts + 1
  | .iface _ d => uptoBulk d + 1
  | .map entries => uptoBulkEntries entries + 1
  | .held _ => 1
def uptoBulkAll {H : Type} : List (DataW H) → Nat
  | [] => 0
  | d :: r => uptoBulk d + uptoBulkAll r
def uptoBulkEntries {H : Type} : List (Lit × DataW H) → Nat
  | [] => 0
  | x :: r => uptoBulkEntry x + uptoBulkEntries r
def uptoBulkEntry {H : Type} : Lit × DataW H → Nat
  | (.string bytes, d) => bytes.length + uptoBulk d + 1
  | (_, d) => uptoBulk d + 1
 end
def uptoSmall : (H : Type) → List (DataW H) → Bool := fun _ ds => decide (uptoBulkAll ds ≤ 1048576)
def OpenSpec.upto (s : _root_.Go.ChangeSpec) : _root_.Go.OpenSpec := { _root_.Go.OpenSpec.ofChange s with cond := some uptoSmall }

/-- 'ringkeep4.SockTalks', WHERE WHAT IT READS IS OF BULK AT MOST 1048576: true; the input reads as it did. -/
def sockTalksUptoRow : OpenClaim := { program := "ytnniicmpbcfinaa", sum := "178ea8aec35111d903d4f7a9a4c08488f1b7058a14aa1f0320bfcf349e4995f6", func := "ringhall/ringkeep4.SockTalks", spec := "sockTalks", apart := false, narrowed := true }
def SockTalksUptoSaid : Prop := sockTalksUptoRow.holds Try.pinned (OpenSpec.upto sockTalksSpec)

/-- 'ringkeep4.SockTurns', WHERE WHAT IT READS IS OF BULK AT MOST 1048576: true; the input reads as it did. -/
def sockTurnsUptoRow : OpenClaim := { program := "ytnniicmpbcfinaa", sum := "178ea8aec35111d903d4f7a9a4c08488f1b7058a14aa1f0320bfcf349e4995f6", func := "ringhall/ringkeep4.SockTurns", spec := "sockTurns", apart := false, narrowed := true }
def SockTurnsUptoSaid : Prop := sockTurnsUptoRow.holds Try.pinned (OpenSpec.upto sockTurnsSpec)

/-- 'ringkeep4.SockNames', WHERE WHAT IT READS IS OF BULK AT MOST 1048576: true; the input reads as it did. -/
def sockNamesUptoRow : OpenClaim := { program := "ytnniicmpbcfinaa", sum := "178ea8aec35111d903d4f7a9a4c08488f1b7058a14aa1f0320bfcf349e4995f6", func := "ringhall/ringkeep4.SockNames", spec := "sockNames", unfollowed := true, recurses := true, apart := false, narrowed := true }
def SockNamesUptoSaid : Prop := sockNamesUptoRow.holds Try.pinned (OpenSpec.upto sockNamesSpec)

/-- 'ringkeep4.SockParts', WHERE WHAT IT READS IS OF BULK AT MOST 1048576: true; the input reads as it did. -/
def sockPartsUptoRow : OpenClaim := { program := "ytnniicmpbcfinaa", sum := "178ea8aec35111d903d4f7a9a4c08488f1b7058a14aa1f0320bfcf349e4995f6", func := "ringhall/ringkeep4.SockParts", spec := "sockParts", unfollowed := true, recurses := true, apart := false, narrowed := true }
def SockPartsUptoSaid : Prop := sockPartsUptoRow.holds Try.pinned (OpenSpec.upto sockPartsSpec)

end Rows
end Go.Proofs.Ytnniicmpbcfinaa
