/-
  No cell of these rows narrows 'for every input' (looked for: loops, veiled, ifaces, maps, wideKeys, modest, calm, conditions, laid).
  DERIVED. THE GIVEN ROWS OF THIS SEAT. 5 by the template 'for every input the law returns true; each argument reads behind the call as it read before'; 0 by the template 'total and deterministic' (their statements: YtoicpnpahjmegaaTotals.lean).
  GIVEN WITH THE SEED: the statements are not yours to turn. If you find one false, say at which input.
  Laid BY PROGRAM, IN A SANDBOX (cutbox-rows.mjs): the forced cells as the released guide's own fill.sh prints them over the translation e6965f6b2f614e66… (all of the seat's roots in one cut). By AI agents, Wed Nov 11 2026. No macro, syntax, notation, axiom, sorry.
-/
import Derived.Test.YtoicpnpahjmegaaChecked
import GoSem.Claim
import GoSem.ClaimJoined
import GoSem.ClaimMapViews
import Derived.JoinedTies
import Derived.KernelRfl
namespace Go.Proofs.Ytoicpnpahjmegaa
/- THE CELL 'sum', in the pinned program and in every row, IS THE sha256 OF THE DUMP (.gsa) THAT YtoicpnpahjmegaaProg.lean LOADS. Nothing in Lean hashes anything: it is a label: what it is worth is what the hold of that sum in a sandbox is worth. -/
noncomputable def Try.pinned : Pinned := { name := "ytoicpnpahjmegaa", sum := "e6965f6b2f614e663dafda36d5b1a357f79fc14fffa3ec8e1d9126112e7abc72", checked := Try.checked }
namespace Rows
def none {H : Type} : Left H := { results := [], args := [] }

/-- 'ringkeep4.PipeRoom': WHATEVER THE INPUT: true; the input reads as it did. -/
def pipeRoomSpec : ChangeSpec := { name := "pipeRoom", fn := fun _ => fun
  | [d1, d2, d3] => { results := [.lit (.bool true)], args := [d1, d2, d3] }
  | _ => none }
def pipeRoomRow : OpenClaim := { program := "ytoicpnpahjmegaa", sum := "e6965f6b2f614e663dafda36d5b1a357f79fc14fffa3ec8e1d9126112e7abc72", func := "ringhall/ringkeep4.PipeRoom", spec := "pipeRoom", apart := false }
def PipeRoomSaid : Prop := pipeRoomRow.holds Try.pinned (OpenSpec.ofChange pipeRoomSpec)

/-- ITS FALSE NEIGHBOUR: 'it returns false'. Refute it at one input. -/
def pipeRoomWrong : ChangeSpec := { name := "pipeRoom", fn := fun _ => fun
  | [d1, d2, d3] => { results := [.lit (.bool false)], args := [d1, d2, d3] }
  | _ => none }
def PipeRoomWrongFalsely : Prop := pipeRoomRow.holds Try.pinned (OpenSpec.ofChange pipeRoomWrong)

/-- 'ringkeep4.PipeEnds': WHATEVER THE INPUT: true; the input reads as it did. -/
def pipeEndsSpec : ChangeSpec := { name := "pipeEnds", fn := fun _ => fun
  | [d1, d2] => { results := [.lit (.bool true)], args := [d1, d2] }
  | _ => none }
def pipeEndsRow : OpenClaim := { program := "ytoicpnpahjmegaa", sum := "e6965f6b2f614e663dafda36d5b1a357f79fc14fffa3ec8e1d9126112e7abc72", func := "ringhall/ringkeep4.PipeEnds", spec := "pipeEnds", apart := false }
def PipeEndsSaid : Prop := pipeEndsRow.holds Try.pinned (OpenSpec.ofChange pipeEndsSpec)

/-- ITS FALSE NEIGHBOUR: 'it returns false'. Refute it at one input. -/
def pipeEndsWrong : ChangeSpec := { name := "pipeEnds", fn := fun _ => fun
  | [d1, d2] => { results := [.lit (.bool false)], args := [d1, d2] }
  | _ => none }
def PipeEndsWrongFalsely : Prop := pipeEndsRow.holds Try.pinned (OpenSpec.ofChange pipeEndsWrong)

/-- 'ringkeep4.PipeLone': WHATEVER THE INPUT: true; the input reads as it did. -/
def pipeLoneSpec : ChangeSpec := { name := "pipeLone", fn := fun _ => fun
  | [d1, d2] => { results := [.lit (.bool true)], args := [d1, d2] }
  | _ => none }
def pipeLoneRow : OpenClaim := { program := "ytoicpnpahjmegaa", sum := "e6965f6b2f614e663dafda36d5b1a357f79fc14fffa3ec8e1d9126112e7abc72", func := "ringhall/ringkeep4.PipeLone", spec := "pipeLone", apart := false }
def PipeLoneSaid : Prop := pipeLoneRow.holds Try.pinned (OpenSpec.ofChange pipeLoneSpec)

/-- ITS FALSE NEIGHBOUR: 'it returns false'. Refute it at one input. -/
def pipeLoneWrong : ChangeSpec := { name := "pipeLone", fn := fun _ => fun
  | [d1, d2] => { results := [.lit (.bool false)], args := [d1, d2] }
  | _ => none }
def PipeLoneWrongFalsely : Prop := pipeLoneRow.holds Try.pinned (OpenSpec.ofChange pipeLoneWrong)

/-- 'ringkeep4.PipeApart': WHATEVER THE INPUT: true; the input reads as it did. -/
def pipeApartSpec : ChangeSpec := { name := "pipeApart", fn := fun _ => fun
  | [d1, d2, d3] => { results := [.lit (.bool true)], args := [d1, d2, d3] }
  | _ => none }
def pipeApartRow : OpenClaim := { program := "ytoicpnpahjmegaa", sum := "e6965f6b2f614e663dafda36d5b1a357f79fc14fffa3ec8e1d9126112e7abc72", func := "ringhall/ringkeep4.PipeApart", spec := "pipeApart", apart := false }
def PipeApartSaid : Prop := pipeApartRow.holds Try.pinned (OpenSpec.ofChange pipeApartSpec)

/-- ITS FALSE NEIGHBOUR: 'it returns false'. Refute it at one input. -/
def pipeApartWrong : ChangeSpec := { name := "pipeApart", fn := fun _ => fun
  | [d1, d2, d3] => { results := [.lit (.bool false)], args := [d1, d2, d3] }
  | _ => none }
def PipeApartWrongFalsely : Prop := pipeApartRow.holds Try.pinned (OpenSpec.ofChange pipeApartWrong)

/-- 'ringkeep4.PipeFlows': WHATEVER THE INPUT: true; the input reads as it did. -/
def pipeFlowsSpec : ChangeSpec := { name := "pipeFlows", fn := fun _ => fun
  | [d] => { results := [.lit (.bool true)], args := [d] }
  | _ => none }
def pipeFlowsRow : OpenClaim := { program := "ytoicpnpahjmegaa", sum := "e6965f6b2f614e663dafda36d5b1a357f79fc14fffa3ec8e1d9126112e7abc72", func := "ringhall/ringkeep4.PipeFlows", spec := "pipeFlows", apart := false }
def PipeFlowsSaid : Prop := pipeFlowsRow.holds Try.pinned (OpenSpec.ofChange pipeFlowsSpec)

/-- ITS FALSE NEIGHBOUR: 'it returns false'. Refute it at one input. -/
def pipeFlowsWrong : ChangeSpec := { name := "pipeFlows", fn := fun _ => fun
  | [d] => { results := [.lit (.bool false)], args := [d] }
  | _ => none }
def PipeFlowsWrongFalsely : Prop := pipeFlowsRow.holds Try.pinned (OpenSpec.ofChange pipeFlowsWrong)

/- THE SECOND FORM. 'bulk': how many values and letters a reading holds, each counted each time it is reached (what is shared counts as often as it is met; a slice's spare places count too). A statement '..UptoSaid' is the law's where the arguments, and the package variables that the reading takes, are together of bulk at most 1048576: NARROWER than '..Said'. Prove '..Said' where nothing that the law and all that it calls make is longer than what came in: it says more and counts as full. Else prove '..UptoSaid'. A law counts once. -/
mutual
def uptoBulk {H : Type} : DataW H → Nat
  | .lit (.string bytes) => bytes.length + 1
  | .lit _ => 1
  | .nil => 1
  | .ptr d => uptoBulk d + 1
  | .slice elems spare => uptoBulkAll elems + uptoBulkAll spare + 1
  | .agg parts => uptoBulkAll parts + 1
  | .iface _ d => uptoBulk d + 1
  | .map entries => uptoBulkEntries entries + 1
  | .held _ => 1
def uptoBulkAll {H : Type} : List (DataW H) → Nat
  | [] => 0
  | d :: r => uptoBulk d + uptoBulkAll r
def uptoBulkEntries {H : Type} : List (Lit × DataW H) → Nat
  | [] => 0
  | x :: r => uptoBulkEntry x + uptoBulkEntries r
def uptoBulkEntry {H : Type} : Lit × DataW H → Nat
  | (.string bytes, d) => bytes.length + uptoBulk d + 1
  | (_, d) => uptoBulk d + 1
 end
def uptoSmall : (H : Type) → List (DataW H) → Bool := fun _ ds => decide (uptoBulkAll ds ≤ 1048576)
def OpenSpec.upto (s : _root_.Go.ChangeSpec) : _root_.Go.OpenSpec := { _root_.Go.OpenSpec.ofChange s with cond := some uptoSmall }

/-- 'ringkeep4.PipeRoom', WHERE WHAT IT READS IS OF BULK AT MOST 1048576: true; the input reads as it did. -/
def pipeRoomUptoRow : OpenClaim := { program := "ytoicpnpahjmegaa", sum := "e6965f6b2f614e663dafda36d5b1a357f79fc14fffa3ec8e1d9126112e7abc72", func := "ringhall/ringkeep4.PipeRoom", spec := "pipeRoom", apart := false, narrowed := true }
def PipeRoomUptoSaid : Prop := pipeRoomUptoRow.holds Try.pinned (OpenSpec.upto pipeRoomSpec)

/-- 'ringkeep4.PipeEnds', WHERE WHAT IT READS IS OF BULK AT MOST 1048576: true; the input reads as it did. -/
def pipeEndsUptoRow : OpenClaim := { program := "ytoicpnpahjmegaa", sum := "e6965f6b2f614e663dafda36d5b1a357f79fc14fffa3ec8e1d9126112e7abc72", func := "ringhall/ringkeep4.PipeEnds", spec := "pipeEnds", apart := false, narrowed := true }
def PipeEndsUptoSaid : Prop := pipeEndsUptoRow.holds Try.pinned (OpenSpec.upto pipeEndsSpec)

/-- 'ringkeep4.PipeLone', WHERE WHAT IT READS IS OF BULK AT MOST 1048576: true; the input reads as it did. -/
def pipeLoneUptoRow : OpenClaim := { program := "ytoicpnpahjmegaa", sum := "e6965f6b2f614e663dafda36d5b1a357f79fc14fffa3ec8e1d9126112e7abc72", func := "ringhall/ringkeep4.PipeLone", spec := "pipeLone", apart := false, narrowed := true }
def PipeLoneUptoSaid : Prop := pipeLoneUptoRow.holds Try.pinned (OpenSpec.upto pipeLoneSpec)

/-- 'ringkeep4.PipeApart', WHERE WHAT IT READS IS OF BULK AT MOST 1048576: true; the input reads as it did. -/
def pipeApartUptoRow : OpenClaim := { program := "ytoicpnpahjmegaa", sum := "e6965f6b2f614e663dafda36d5b1a357f79fc14fffa3ec8e1d9126112e7abc72", func := "ringhall/ringkeep4.PipeApart", spec := "pipeApart", apart := false, narrowed := true }
def PipeApartUptoSaid : Prop := pipeApartUptoRow.holds Try.pinned (OpenSpec.upto pipeApartSpec)

/-- 'ringkeep4.PipeFlows', WHERE WHAT IT READS IS OF BULK AT MOST 1048576: true; the input reads as it did. -/
def pipeFlowsUptoRow : OpenClaim := { program := "ytoicpnpahjmegaa", sum := "e6965f6b2f614e663dafda36d5b1a357f79fc14fffa3ec8e1d9126112e7abc72", func := "ringhall/ringkeep4.PipeFlows", spec := "pipeFlows", apart := false, narrowed := true }
def PipeFlowsUptoSaid : Prop := pipeFlowsUptoRow.holds Try.pinned (OpenSpec.upto pipeFlowsSpec)

end Rows
end Go.Proofs.Ytoicpnpahjmegaa
