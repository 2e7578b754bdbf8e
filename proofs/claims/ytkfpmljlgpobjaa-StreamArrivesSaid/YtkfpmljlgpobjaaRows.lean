/-
  No cell of these rows narrows 'for every input' (looked for: loops, veiled, ifaces, maps, wideKeys, modest, calm, conditions, laid).
  DERIVED. THE GIVEN ROWS OF THIS SEAT. 6 by the template 'for every input the law returns true; each argument reads behind the call as it read before'; 0 by the template 'total and deterministic' (their statements: YtkfpmljlgpobjaaTotals.lean).
  GIVEN WITH THE SEED: the statements are not yours to turn. If you find one false, say at which input.
  Laid BY PROGRAM, IN A SANDBOX (cutbox-rows.mjs): the forced cells as the released guide's own fill.sh prints them over the translation e7da6a12f76c3616… (all of the seat's roots in one cut). By AI agents, Wed Nov 11 2026. No macro, syntax, notation, axiom, sorry.
-/
import Derived.Test.YtkfpmljlgpobjaaChecked
import GoSem.Claim
import GoSem.ClaimJoined
import GoSem.ClaimMapViews
import Derived.JoinedTies
import Derived.KernelRfl
namespace Go.Proofs.Ytkfpmljlgpobjaa
/- THE CELL 'sum', in the pinned program and in every row, IS THE sha256 OF THE DUMP (.gsa) THAT YtkfpmljlgpobjaaProg.lean LOADS. Nothing in Lean hashes anything: it is a label: what it is worth is what the hold of that sum in a sandbox is worth. -/
noncomputable def Try.pinned : Pinned := { name := "ytkfpmljlgpobjaa", sum := "e7da6a12f76c3616e804feb0e43788dcbb5228f9c452b3d31c90b1522e6eb568", checked := Try.checked }
namespace Rows
def none {H : Type} : Left H := { results := [], args := [] }

/-- 'ringkeep4.StreamSilent': WHATEVER THE INPUT: true; the input reads as it did. -/
def streamSilentSpec : ChangeSpec := { name := "streamSilent", fn := fun _ => fun
  | [d] => { results := [.lit (.bool true)], args := [d] }
  | _ => none }
def streamSilentRow : OpenClaim := { program := "ytkfpmljlgpobjaa", sum := "e7da6a12f76c3616e804feb0e43788dcbb5228f9c452b3d31c90b1522e6eb568", func := "ringhall/ringkeep4.StreamSilent", spec := "streamSilent", apart := false }
def StreamSilentSaid : Prop := streamSilentRow.holds Try.pinned (OpenSpec.ofChange streamSilentSpec)

/-- ITS FALSE NEIGHBOUR: 'it returns false'. Refute it at one input. -/
def streamSilentWrong : ChangeSpec := { name := "streamSilent", fn := fun _ => fun
  | [d] => { results := [.lit (.bool false)], args := [d] }
  | _ => none }
def StreamSilentWrongFalsely : Prop := streamSilentRow.holds Try.pinned (OpenSpec.ofChange streamSilentWrong)

/-- 'ringkeep4.StreamMeets': WHATEVER THE INPUT: true; the input reads as it did. -/
def streamMeetsSpec : ChangeSpec := { name := "streamMeets", fn := fun _ => fun
  | [d1, d2] => { results := [.lit (.bool true)], args := [d1, d2] }
  | _ => none }
def streamMeetsRow : OpenClaim := { program := "ytkfpmljlgpobjaa", sum := "e7da6a12f76c3616e804feb0e43788dcbb5228f9c452b3d31c90b1522e6eb568", func := "ringhall/ringkeep4.StreamMeets", spec := "streamMeets", apart := false }
def StreamMeetsSaid : Prop := streamMeetsRow.holds Try.pinned (OpenSpec.ofChange streamMeetsSpec)

/-- ITS FALSE NEIGHBOUR: 'it returns false'. Refute it at one input. -/
def streamMeetsWrong : ChangeSpec := { name := "streamMeets", fn := fun _ => fun
  | [d1, d2] => { results := [.lit (.bool false)], args := [d1, d2] }
  | _ => none }
def StreamMeetsWrongFalsely : Prop := streamMeetsRow.holds Try.pinned (OpenSpec.ofChange streamMeetsWrong)

/-- 'ringkeep4.StreamReset': WHATEVER THE INPUT: true; the input reads as it did. -/
def streamResetSpec : ChangeSpec := { name := "streamReset", fn := fun _ => fun
  | [d1, d2, d3] => { results := [.lit (.bool true)], args := [d1, d2, d3] }
  | _ => none }
def streamResetRow : OpenClaim := { program := "ytkfpmljlgpobjaa", sum := "e7da6a12f76c3616e804feb0e43788dcbb5228f9c452b3d31c90b1522e6eb568", func := "ringhall/ringkeep4.StreamReset", spec := "streamReset", apart := false }
def StreamResetSaid : Prop := streamResetRow.holds Try.pinned (OpenSpec.ofChange streamResetSpec)

/-- ITS FALSE NEIGHBOUR: 'it returns false'. Refute it at one input. -/
def streamResetWrong : ChangeSpec := { name := "streamReset", fn := fun _ => fun
  | [d1, d2, d3] => { results := [.lit (.bool false)], args := [d1, d2, d3] }
  | _ => none }
def StreamResetWrongFalsely : Prop := streamResetRow.holds Try.pinned (OpenSpec.ofChange streamResetWrong)

/-- 'ringkeep4.StreamTalks': WHATEVER THE INPUT: true; the input reads as it did. -/
def streamTalksSpec : ChangeSpec := { name := "streamTalks", fn := fun _ => fun
  | [d1, d2, d3, d4] => { results := [.lit (.bool true)], args := [d1, d2, d3, d4] }
  | _ => none }
def streamTalksRow : OpenClaim := { program := "ytkfpmljlgpobjaa", sum := "e7da6a12f76c3616e804feb0e43788dcbb5228f9c452b3d31c90b1522e6eb568", func := "ringhall/ringkeep4.StreamTalks", spec := "streamTalks", apart := false }
def StreamTalksSaid : Prop := streamTalksRow.holds Try.pinned (OpenSpec.ofChange streamTalksSpec)

/-- ITS FALSE NEIGHBOUR: 'it returns false'. Refute it at one input. -/
def streamTalksWrong : ChangeSpec := { name := "streamTalks", fn := fun _ => fun
  | [d1, d2, d3, d4] => { results := [.lit (.bool false)], args := [d1, d2, d3, d4] }
  | _ => none }
def StreamTalksWrongFalsely : Prop := streamTalksRow.holds Try.pinned (OpenSpec.ofChange streamTalksWrong)

/-- 'ringkeep4.StreamArrives': WHATEVER THE INPUT: true; the input reads as it did. -/
def streamArrivesSpec : ChangeSpec := { name := "streamArrives", fn := fun _ => fun
  | [d1, d2, d3] => { results := [.lit (.bool true)], args := [d1, d2, d3] }
  | _ => none }
def streamArrivesRow : OpenClaim := { program := "ytkfpmljlgpobjaa", sum := "e7da6a12f76c3616e804feb0e43788dcbb5228f9c452b3d31c90b1522e6eb568", func := "ringhall/ringkeep4.StreamArrives", spec := "streamArrives", apart := false }
def StreamArrivesSaid : Prop := streamArrivesRow.holds Try.pinned (OpenSpec.ofChange streamArrivesSpec)

/-- ITS FALSE NEIGHBOUR: 'it returns false'. Refute it at one input. -/
def streamArrivesWrong : ChangeSpec := { name := "streamArrives", fn := fun _ => fun
  | [d1, d2, d3] => { results := [.lit (.bool false)], args := [d1, d2, d3] }
  | _ => none }
def StreamArrivesWrongFalsely : Prop := streamArrivesRow.holds Try.pinned (OpenSpec.ofChange streamArrivesWrong)

/-- 'ringkeep4.StreamFront': WHATEVER THE INPUT: true; the input reads as it did. -/
def streamFrontSpec : ChangeSpec := { name := "streamFront", fn := fun _ => fun
  | [d1, d2, d3] => { results := [.lit (.bool true)], args := [d1, d2, d3] }
  | _ => none }
def streamFrontRow : OpenClaim := { program := "ytkfpmljlgpobjaa", sum := "e7da6a12f76c3616e804feb0e43788dcbb5228f9c452b3d31c90b1522e6eb568", func := "ringhall/ringkeep4.StreamFront", spec := "streamFront", apart := false }
def StreamFrontSaid : Prop := streamFrontRow.holds Try.pinned (OpenSpec.ofChange streamFrontSpec)

/-- ITS FALSE NEIGHBOUR: 'it returns false'. Refute it at one input. -/
def streamFrontWrong : ChangeSpec := { name := "streamFront", fn := fun _ => fun
  | [d1, d2, d3] => { results := [.lit (.bool false)], args := [d1, d2, d3] }
  | _ => none }
def StreamFrontWrongFalsely : Prop := streamFrontRow.holds Try.pinned (OpenSpec.ofChange streamFrontWrong)

/- THE SECOND FORM. 'bulk': how many values and letters a reading holds, each counted each time it is reached (what is shared counts as often as it is met; a slice's spare places count too). A statement '..UptoSaid' is the law's where the arguments, and the package variables that the reading takes, are together of bulk at most 1048576: NARROWER than '..Said'. Prove '..Said' where nothing that the law and all that it calls make is longer than what came in: it says more and counts as full. Else prove '..UptoSaid'. A law counts once. -/
mutual
def uptoBulk {H : Type} : DataW H → Nat
  | .lit (.string bytes) => bytes.length + 1
  | .lit _ => 1
  | .nil => 1
  | .ptr d => uptoBulk d + 1
  | .slice elems spare => uptoBulkAll elems + uptoBulkAll spare + 1
  | .agg parts => uptoBulkAll parts + 1
  | .iface _ d => uptoBulk d + 1
  | .map entries => uptoBulkEntries entries + 1
  | .held _ => 1
def uptoBulkAll {H : Type} : List (DataW H) → Nat
  | [] => 0
  | d :: r => uptoBulk d + uptoBulkAll r
def uptoBulkEntries {H : Type} : List (Lit × DataW H) → Nat
  | [] => 0
  | x :: r => uptoBulkEntry x + uptoBulkEntries r
def uptoBulkEntry {H : Type} : Lit × DataW H → Nat
  | (.string bytes, d) => bytes.length + uptoBulk d + 1
  | (_, d) => uptoBulk d + 1
 end
def uptoSmall : (H : Type) → List (DataW H) → Bool := fun _ ds => decide (uptoBulkAll ds ≤ 1048576)
def OpenSpec.upto (s : _root_.Go.ChangeSpec) : _root_.Go.OpenSpec := { _root_.Go.OpenSpec.ofChange s with cond := some uptoSmall }

/-- 'ringkeep4.StreamSilent', WHERE WHAT IT READS IS OF BULK AT MOST 1048576: true; the input reads as it did. -/
def streamSilentUptoRow : OpenClaim := { program := "ytkfpmljlgpobjaa", sum := "e7da6a12f76c3616e804feb0e43788dcbb5228f9c452b3d31c90b1522e6eb568", func := "ringhall/ringkeep4.StreamSilent", spec := "streamSilent", apart := false, narrowed := true }
def StreamSilentUptoSaid : Prop := streamSilentUptoRow.holds Try.pinned (OpenSpec.upto streamSilentSpec)

/-- 'ringkeep4.StreamMeets', WHERE WHAT IT READS IS OF BULK AT MOST 1048576: true; the input reads as it did. -/
def streamMeetsUptoRow : OpenClaim := { program := "ytkfpmljlgpobjaa", sum := "e7da6a12f76c3616e804feb0e43788dcbb5228f9c452b3d31c90b1522e6eb568", func := "ringhall/ringkeep4.StreamMeets", spec := "streamMeets", apart := false, narrowed := true }
def StreamMeetsUptoSaid : Prop := streamMeetsUptoRow.holds Try.pinned (OpenSpec.upto streamMeetsSpec)

/-- 'ringkeep4.StreamReset', WHERE WHAT IT READS IS OF BULK AT MOST 1048576: true; the input reads as it did. -/
def streamResetUptoRow : OpenClaim := { program := "ytkfpmljlgpobjaa", sum := "e7da6a12f76c3616e804feb0e43788dcbb5228f9c452b3d31c90b1522e6eb568", func := "ringhall/ringkeep4.StreamReset", spec := "streamReset", apart := false, narrowed := true }
def StreamResetUptoSaid : Prop := streamResetUptoRow.holds Try.pinned (OpenSpec.upto streamResetSpec)

/-- 'ringkeep4.StreamTalks', WHERE WHAT IT READS IS OF BULK AT MOST 1048576: true; the input reads as it did. -/
def streamTalksUptoRow : OpenClaim := { program := "ytkfpmljlgpobjaa", sum := "e7da6a12f76c3616e804feb0e43788dcbb5228f9c452b3d31c90b1522e6eb568", func := "ringhall/ringkeep4.StreamTalks", spec := "streamTalks", apart := false, narrowed := true }
def StreamTalksUptoSaid : Prop := streamTalksUptoRow.holds Try.pinned (OpenSpec.upto streamTalksSpec)

/-- 'ringkeep4.StreamArrives', WHERE WHAT IT READS IS OF BULK AT MOST 1048576: true; the input reads as it did. -/
def streamArrivesUptoRow : OpenClaim := { program := "ytkfpmljlgpobjaa", sum := "e7da6a12f76c3616e804feb0e43788dcbb5228f9c452b3d31c90b1522e6eb568", func := "ringhall/ringkeep4.StreamArrives", spec := "streamArrives", apart := false, narrowed := true }
def StreamArrivesUptoSaid : Prop := streamArrivesUptoRow.holds Try.pinned (OpenSpec.upto streamArrivesSpec)

/-- 'ringkeep4.StreamFront', WHERE WHAT IT READS IS OF BULK AT MOST 1048576: true; the input reads as it did. -/
def streamFrontUptoRow : OpenClaim := { program := "ytkfpmljlgpobjaa", sum := "e7da6a12f76c3616e804feb0e43788dcbb5228f9c452b3d31c90b1522e6eb568", func := "ringhall/ringkeep4.StreamFront", spec := "streamFront", apart := false, narrowed := true }
def StreamFrontUptoSaid : Prop := streamFrontUptoRow.holds Try.pinned (OpenSpec.upto streamFrontSpec)

end Rows
end Go.Proofs.Ytkfpmljlgpobjaa
