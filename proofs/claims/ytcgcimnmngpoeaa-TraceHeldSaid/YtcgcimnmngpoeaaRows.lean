/-
  No cell of these rows narrows 'for every input' (looked for: loops, veiled, ifaces, maps, wideKeys, modest, calm, conditions, laid).
  DERIVED. THE GIVEN ROWS OF THIS SEAT. 4 by the template 'for every input the law returns true; each argument reads behind the call as it read before'; 0 by the template 'total and deterministic' (their statements: YtcgcimnmngpoeaaTotals.lean).
  GIVEN WITH THE SEED: the statements are not yours to turn. If you find one false, say at which input.
  Laid BY PROGRAM, IN A SANDBOX (cutbox-rows.mjs): the forced cells as the released guide's own fill.sh prints them over the translation bf6c8ab28d316628… (all of the seat's roots in one cut). By AI agents, Wed Nov 11 2026. No macro, syntax, notation, axiom, sorry.
-/
import Derived.Test.YtcgcimnmngpoeaaChecked
import GoSem.Claim
import GoSem.ClaimJoined
import GoSem.ClaimMapViews
import Derived.JoinedTies
import Derived.KernelRfl
namespace Go.Proofs.Ytcgcimnmngpoeaa
/- THE CELL 'sum', in the pinned program and in every row, IS THE sha256 OF THE DUMP (.gsa) THAT YtcgcimnmngpoeaaProg.lean LOADS. Nothing in Lean hashes anything: it is a label: what it is worth is what the hold of that sum in a sandbox is worth. -/
noncomputable def Try.pinned : Pinned := { name := "ytcgcimnmngpoeaa", sum := "bf6c8ab28d316628cab0778c15f004adada7261b2bbdd992d74402b8379d1701", checked := Try.checked }
namespace Rows
def none {H : Type} : Left H := { results := [], args := [] }

/-- 'ringkeep4.TraceTurned': WHATEVER THE INPUT: true; the input reads as it did. -/
def traceTurnedSpec : ChangeSpec := { name := "traceTurned", fn := fun _ => fun
  | [d] => { results := [.lit (.bool true)], args := [d] }
  | _ => none }
def traceTurnedRow : OpenClaim := { program := "ytcgcimnmngpoeaa", sum := "bf6c8ab28d316628cab0778c15f004adada7261b2bbdd992d74402b8379d1701", func := "ringhall/ringkeep4.TraceTurned", spec := "traceTurned", apart := false }
def TraceTurnedSaid : Prop := traceTurnedRow.holds Try.pinned (OpenSpec.ofChange traceTurnedSpec)

/-- ITS FALSE NEIGHBOUR: 'it returns false'. Refute it at one input. -/
def traceTurnedWrong : ChangeSpec := { name := "traceTurned", fn := fun _ => fun
  | [d] => { results := [.lit (.bool false)], args := [d] }
  | _ => none }
def TraceTurnedWrongFalsely : Prop := traceTurnedRow.holds Try.pinned (OpenSpec.ofChange traceTurnedWrong)

/-- 'ringkeep4.TraceBack': WHATEVER THE INPUT: true; the input reads as it did. -/
def traceBackSpec : ChangeSpec := { name := "traceBack", fn := fun _ => fun
  | [d] => { results := [.lit (.bool true)], args := [d] }
  | _ => none }
def traceBackRow : OpenClaim := { program := "ytcgcimnmngpoeaa", sum := "bf6c8ab28d316628cab0778c15f004adada7261b2bbdd992d74402b8379d1701", func := "ringhall/ringkeep4.TraceBack", spec := "traceBack", apart := false }
def TraceBackSaid : Prop := traceBackRow.holds Try.pinned (OpenSpec.ofChange traceBackSpec)

/-- ITS FALSE NEIGHBOUR: 'it returns false'. Refute it at one input. -/
def traceBackWrong : ChangeSpec := { name := "traceBack", fn := fun _ => fun
  | [d] => { results := [.lit (.bool false)], args := [d] }
  | _ => none }
def TraceBackWrongFalsely : Prop := traceBackRow.holds Try.pinned (OpenSpec.ofChange traceBackWrong)

/-- 'ringkeep4.TraceRight': WHATEVER THE INPUT: true; the input reads as it did. -/
def traceRightSpec : ChangeSpec := { name := "traceRight", fn := fun _ => fun
  | [d] => { results := [.lit (.bool true)], args := [d] }
  | _ => none }
def traceRightRow : OpenClaim := { program := "ytcgcimnmngpoeaa", sum := "bf6c8ab28d316628cab0778c15f004adada7261b2bbdd992d74402b8379d1701", func := "ringhall/ringkeep4.TraceRight", spec := "traceRight", apart := false }
def TraceRightSaid : Prop := traceRightRow.holds Try.pinned (OpenSpec.ofChange traceRightSpec)

/-- ITS FALSE NEIGHBOUR: 'it returns false'. Refute it at one input. -/
def traceRightWrong : ChangeSpec := { name := "traceRight", fn := fun _ => fun
  | [d] => { results := [.lit (.bool false)], args := [d] }
  | _ => none }
def TraceRightWrongFalsely : Prop := traceRightRow.holds Try.pinned (OpenSpec.ofChange traceRightWrong)

/-- 'ringkeep4.TraceHeld': WHATEVER THE INPUT: true; the input reads as it did. -/
def traceHeldSpec : ChangeSpec := { name := "traceHeld", fn := fun _ => fun
  | [d1, d2, d3] => { results := [.lit (.bool true)], args := [d1, d2, d3] }
  | _ => none }
def traceHeldRow : OpenClaim := { program := "ytcgcimnmngpoeaa", sum := "bf6c8ab28d316628cab0778c15f004adada7261b2bbdd992d74402b8379d1701", func := "ringhall/ringkeep4.TraceHeld", spec := "traceHeld", apart := false }
def TraceHeldSaid : Prop := traceHeldRow.holds Try.pinned (OpenSpec.ofChange traceHeldSpec)

/-- ITS FALSE NEIGHBOUR: 'it returns false'. Refute it at one input. -/
def traceHeldWrong : ChangeSpec := { name := "traceHeld", fn := fun _ => fun
  | [d1, d2, d3] => { results := [.lit (.bool false)], args := [d1, d2, d3] }
  | _ => none }
def TraceHeldWrongFalsely : Prop := traceHeldRow.holds Try.pinned (OpenSpec.ofChange traceHeldWrong)

/- THE SECOND FORM. 'bulk': how many values and letters a reading holds, each counted each time it is reached (what is shared counts as often as it is met; a slice's spare places count too). A statement '..UptoSaid' is the law's where the arguments, and the package variables that the reading takes, are together of bulk at most 1048576: NARROWER than '..Said'. Prove '..Said' where nothing that the law and all that it calls make is longer than what came in: it says more and counts as full. Else prove '..UptoSaid'. A law counts once. -/
mutual
def uptoBulk {H : Type} : DataW H → Nat
  | .lit (.string bytes) => bytes.length + 1
  | .lit _ => 1
  | .nil => 1
  | .ptr d => uptoBulk d + 1
  | .slice elems spare => uptoBulkAll elems + uptoBulkAll spare + 1
  | .agg parts => uptoBulkAll parts + 1
  | .iface _ d => uptoBulk d + 1
  | .map entries => uptoBulkEntries entries + 1
  | .held _ => 1
def uptoBulkAll {H : Type} : List (DataW H) → Nat
  | [] => 0
  | d :: r => uptoBulk d + uptoBulkAll r
def uptoBulkEntries {H : Type} : List (Lit × DataW H) → Nat
  | [] => 0
  | x :: r => uptoBulkEntry x + uptoBulkEntries r
def uptoBulkEntry {H : Type} : Lit × DataW H → Nat
  | (.string bytes, d) => bytes.length + uptoBulk d + 1
  | (_, d) => uptoBulk d + 1
 end
def uptoSmall : (H : Type) → List (DataW H) → Bool := fun _ ds => decide (uptoBulkAll ds ≤ 1048576)
def OpenSpec.upto (s : _root_.Go.ChangeSpec) : _root_.Go.OpenSpec := { _root_.Go.OpenSpec.ofChange s with cond := some uptoSmall }

/-- 'ringkeep4.TraceTurned', WHERE WHAT IT READS IS OF BULK AT MOST 1048576: true; the input reads as it did. -/
def traceTurnedUptoRow : OpenClaim := { program := "ytcgcimnmngpoeaa", sum := "bf6c8ab28d316628cab0778c15f004adada7261b2bbdd992d74402b8379d1701", func := "ringhall/ringkeep4.TraceTurned", spec := "traceTurned", apart := false, narrowed := true }
def TraceTurnedUptoSaid : Prop := traceTurnedUptoRow.holds Try.pinned (OpenSpec.upto traceTurnedSpec)

/-- 'ringkeep4.TraceBack', WHERE WHAT IT READS IS OF BULK AT MOST 1048576: true; the input reads as it did. -/
def traceBackUptoRow : OpenClaim := { program := "ytcgcimnmngpoeaa", sum := "bf6c8ab28d316628cab0778c15f004adada7261b2bbdd992d74402b8379d1701", func := "ringhall/ringkeep4.TraceBack", spec := "traceBack", apart := false, narrowed := true }
def TraceBackUptoSaid : Prop := traceBackUptoRow.holds Try.pinned (OpenSpec.upto traceBackSpec)

/-- 'ringkeep4.TraceRight', WHERE WHAT IT READS IS OF BULK AT MOST 1048576: true; the input reads as it did. -/
def traceRightUptoRow : OpenClaim := { program := "ytcgcimnmngpoeaa", sum := "bf6c8ab28d316628cab0778c15f004adada7261b2bbdd992d74402b8379d1701", func := "ringhall/ringkeep4.TraceRight", spec := "traceRight", apart := false, narrowed := true }
def TraceRightUptoSaid : Prop := traceRightUptoRow.holds Try.pinned (OpenSpec.upto traceRightSpec)

/-- 'ringkeep4.TraceHeld', WHERE WHAT IT READS IS OF BULK AT MOST 1048576: true; the input reads as it did. -/
def traceHeldUptoRow : OpenClaim := { program := "ytcgcimnmngpoeaa", sum := "bf6c8ab28d316628cab0778c15f004adada7261b2bbdd992d74402b8379d1701", func := "ringhall/ringkeep4.TraceHeld", spec := "traceHeld", apart := false, narrowed := true }
def TraceHeldUptoSaid : Prop := traceHeldUptoRow.holds Try.pinned (OpenSpec.upto traceHeldSpec)

end Rows
end Go.Proofs.Ytcgcimnmngpoeaa
