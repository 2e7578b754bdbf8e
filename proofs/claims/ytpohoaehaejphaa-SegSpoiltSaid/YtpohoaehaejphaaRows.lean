/-
  No cell of these rows narrows 'for every input' (looked for: loops, veiled, ifaces, maps, wideKeys, modest, calm, conditions, laid).
  DERIVED. THE GIVEN ROWS OF THIS SEAT. 4 by the template 'for every input the law returns true; each argument reads behind the call as it read before'; 0 by the template 'total and deterministic' (their statements: YtpohoaehaejphaaTotals.lean).
  GIVEN WITH THE SEED: the statements are not yours to turn. If you find one false, say at which input.
  Laid BY PROGRAM, IN A SANDBOX (cutbox-rows.mjs): the forced cells as the released guide's own fill.sh prints them over the translation bec21fb247ca5fe2… (all of the seat's roots in one cut). By AI agents, Wed Nov 11 2026. No macro, syntax, notation, axiom, sorry.
-/
import Derived.Test.YtpohoaehaejphaaChecked
import GoSem.Claim
import GoSem.ClaimJoined
import GoSem.ClaimMapViews
import Derived.JoinedTies
import Derived.KernelRfl
namespace Go.Proofs.Ytpohoaehaejphaa
/- THE CELL 'sum', in the pinned program and in every row, IS THE sha256 OF THE DUMP (.gsa) THAT YtpohoaehaejphaaProg.lean LOADS. Nothing in Lean hashes anything: it is a label: what it is worth is what the hold of that sum in a sandbox is worth. -/
noncomputable def Try.pinned : Pinned := { name := "ytpohoaehaejphaa", sum := "bec21fb247ca5fe2120dbb31546cc2aeedbe9797996c52fb7b34711274c2da7d", checked := Try.checked }
namespace Rows
def none {H : Type} : Left H := { results := [], args := [] }

/-- 'ringkeep4.SegRing': WHATEVER THE INPUT: true; the input reads as it did. -/
def segRingSpec : ChangeSpec := { name := "segRing", fn := fun _ => fun
  | [d1, d2, d3] => { results := [.lit (.bool true)], args := [d1, d2, d3] }
  | _ => none }
def segRingRow : OpenClaim := { program := "ytpohoaehaejphaa", sum := "bec21fb247ca5fe2120dbb31546cc2aeedbe9797996c52fb7b34711274c2da7d", func := "ringhall/ringkeep4.SegRing", spec := "segRing", apart := false }
def SegRingSaid : Prop := segRingRow.holds Try.pinned (OpenSpec.ofChange segRingSpec)

/-- ITS FALSE NEIGHBOUR: 'it returns false'. Refute it at one input. -/
def segRingWrong : ChangeSpec := { name := "segRing", fn := fun _ => fun
  | [d1, d2, d3] => { results := [.lit (.bool false)], args := [d1, d2, d3] }
  | _ => none }
def SegRingWrongFalsely : Prop := segRingRow.holds Try.pinned (OpenSpec.ofChange segRingWrong)

/-- 'ringkeep4.SegBack': WHATEVER THE INPUT: true; the input reads as it did. -/
def segBackSpec : ChangeSpec := { name := "segBack", fn := fun _ => fun
  | [d] => { results := [.lit (.bool true)], args := [d] }
  | _ => none }
def segBackRow : OpenClaim := { program := "ytpohoaehaejphaa", sum := "bec21fb247ca5fe2120dbb31546cc2aeedbe9797996c52fb7b34711274c2da7d", func := "ringhall/ringkeep4.SegBack", spec := "segBack", apart := false }
def SegBackSaid : Prop := segBackRow.holds Try.pinned (OpenSpec.ofChange segBackSpec)

/-- ITS FALSE NEIGHBOUR: 'it returns false'. Refute it at one input. -/
def segBackWrong : ChangeSpec := { name := "segBack", fn := fun _ => fun
  | [d] => { results := [.lit (.bool false)], args := [d] }
  | _ => none }
def SegBackWrongFalsely : Prop := segBackRow.holds Try.pinned (OpenSpec.ofChange segBackWrong)

/-- 'ringkeep4.SegTurned': WHATEVER THE INPUT: true; the input reads as it did. -/
def segTurnedSpec : ChangeSpec := { name := "segTurned", fn := fun _ => fun
  | [d] => { results := [.lit (.bool true)], args := [d] }
  | _ => none }
def segTurnedRow : OpenClaim := { program := "ytpohoaehaejphaa", sum := "bec21fb247ca5fe2120dbb31546cc2aeedbe9797996c52fb7b34711274c2da7d", func := "ringhall/ringkeep4.SegTurned", spec := "segTurned", apart := false }
def SegTurnedSaid : Prop := segTurnedRow.holds Try.pinned (OpenSpec.ofChange segTurnedSpec)

/-- ITS FALSE NEIGHBOUR: 'it returns false'. Refute it at one input. -/
def segTurnedWrong : ChangeSpec := { name := "segTurned", fn := fun _ => fun
  | [d] => { results := [.lit (.bool false)], args := [d] }
  | _ => none }
def SegTurnedWrongFalsely : Prop := segTurnedRow.holds Try.pinned (OpenSpec.ofChange segTurnedWrong)

/-- 'ringkeep4.SegSpoilt': WHATEVER THE INPUT: true; the input reads as it did. -/
def segSpoiltSpec : ChangeSpec := { name := "segSpoilt", fn := fun _ => fun
  | [d1, d2, d3, d4] => { results := [.lit (.bool true)], args := [d1, d2, d3, d4] }
  | _ => none }
def segSpoiltRow : OpenClaim := { program := "ytpohoaehaejphaa", sum := "bec21fb247ca5fe2120dbb31546cc2aeedbe9797996c52fb7b34711274c2da7d", func := "ringhall/ringkeep4.SegSpoilt", spec := "segSpoilt", apart := false }
def SegSpoiltSaid : Prop := segSpoiltRow.holds Try.pinned (OpenSpec.ofChange segSpoiltSpec)

/-- ITS FALSE NEIGHBOUR: 'it returns false'. Refute it at one input. -/
def segSpoiltWrong : ChangeSpec := { name := "segSpoilt", fn := fun _ => fun
  | [d1, d2, d3, d4] => { results := [.lit (.bool false)], args := [d1, d2, d3, d4] }
  | _ => none }
def SegSpoiltWrongFalsely : Prop := segSpoiltRow.holds Try.pinned (OpenSpec.ofChange segSpoiltWrong)

/- THE SECOND FORM. 'bulk': how many values and letters a reading holds, each counted each time it is reached (what is shared counts as often as it is met; a slice's spare places count too). A statement '..UptoSaid' is the law's where the arguments, and the package variables that the reading takes, are together of bulk at most 1048576: NARROWER than '..Said'. Prove '..Said' where nothing that the law and all that it calls make is longer than what came in: it says more and counts as full. Else prove '..UptoSaid'. A law counts once. -/
mutual
def uptoBulk {H : Type} : DataW H → Nat
  | .lit (.string bytes) => bytes.length + 1
  | .lit _ => 1
  | .nil => 1
  | .ptr d => uptoBulk d + 1
  | .slice elems spare => uptoBulkAll elems + uptoBulkAll spare + 1
  | .agg parts => uptoBulkAll parts + 1
  | .iface _ d => uptoBulk d + 1
  | .map entries => uptoBulkEntries entries + 1
  | .held _ => 1
def uptoBulkAll {H : Type} : List (DataW H) → Nat
  | [] => 0
  | d :: r => uptoBulk d + uptoBulkAll r
def uptoBulkEntries {H : Type} : List (Lit × DataW H) → Nat
  | [] => 0
  | x :: r => uptoBulkEntry x + uptoBulkEntries r
def uptoBulkEntry {H : Type} : Lit × DataW H → Nat
  | (.string bytes, d) => bytes.length + uptoBulk d + 1
  | (_, d) => uptoBulk d + 1
 end
def uptoSmall : (H : Type) → List (DataW H) → Bool := fun _ ds => decide (uptoBulkAll ds ≤ 1048576)
def OpenSpec.upto (s : _root_.Go.ChangeSpec) : _root_.Go.OpenSpec := { _root_.Go.OpenSpec.ofChange s with cond := some uptoSmall }

/-- 'ringkeep4.SegRing', WHERE WHAT IT READS IS OF BULK AT MOST 1048576: true; the input reads as it did. -/
def segRingUptoRow : OpenClaim := { program := "ytpohoaehaejphaa", sum := "bec21fb247ca5fe2120dbb31546cc2aeedbe9797996c52fb7b34711274c2da7d", func := "ringhall/ringkeep4.SegRing", spec := "segRing", apart := false, narrowed := true }
def SegRingUptoSaid : Prop := segRingUptoRow.holds Try.pinned (OpenSpec.upto segRingSpec)

/-- 'ringkeep4.SegBack', WHERE WHAT IT READS IS OF BULK AT MOST 1048576: true; the input reads as it did. -/
def segBackUptoRow : OpenClaim := { program := "ytpohoaehaejphaa", sum := "bec21fb247ca5fe2120dbb31546cc2aeedbe9797996c52fb7b34711274c2da7d", func := "ringhall/ringkeep4.SegBack", spec := "segBack", apart := false, narrowed := true }
def SegBackUptoSaid : Prop := segBackUptoRow.holds Try.pinned (OpenSpec.upto segBackSpec)

/-- 'ringkeep4.SegTurned', WHERE WHAT IT READS IS OF BULK AT MOST 1048576: true; the input reads as it did. -/
def segTurnedUptoRow : OpenClaim := { program := "ytpohoaehaejphaa", sum := "bec21fb247ca5fe2120dbb31546cc2aeedbe9797996c52fb7b34711274c2da7d", func := "ringhall/ringkeep4.SegTurned", spec := "segTurned", apart := false, narrowed := true }
def SegTurnedUptoSaid : Prop := segTurnedUptoRow.holds Try.pinned (OpenSpec.upto segTurnedSpec)

/-- 'ringkeep4.SegSpoilt', WHERE WHAT IT READS IS OF BULK AT MOST 1048576: true; the input reads as it did. -/
def segSpoiltUptoRow : OpenClaim := { program := "ytpohoaehaejphaa", sum := "bec21fb247ca5fe2120dbb31546cc2aeedbe9797996c52fb7b34711274c2da7d", func := "ringhall/ringkeep4.SegSpoilt", spec := "segSpoilt", apart := false, narrowed := true }
def SegSpoiltUptoSaid : Prop := segSpoiltUptoRow.holds Try.pinned (OpenSpec.upto segSpoiltSpec)

end Rows
end Go.Proofs.Ytpohoaehaejphaa
