/- Turns that came in; what the contract of turns says. -/
import Derived.Test.YtkfpmljlgpobjaaTurnsP
namespace Go.Proofs.Ytkfpmljlgpobjaa
open Go.RowKit
set_option linter.unusedVariables false

def turnC (x : TurnD × Value) : List Value := [.int .i64 x.1.kind, .int .i64 x.1.n, x.2]
theorem turnC_len (x : TurnD × Value) : (turnC x).length = 3 := rfl
def I64 (z : Int) : Prop := -9223372036854775808 ≤ z ∧ z ≤ 9223372036854775807
/-- Turns that came in. -/
structure TurnsIn (w : World) (A : Option Addr) (n : Nat) (ls : List (TurnD × Value)) : Prop where
  row : Reads w w.heap.size 3 A n (ls.flatMap turnC)
  each : ∀ x ∈ ls, I64 x.1.kind ∧ I64 x.1.n ∧ ∃ A' k c, x.2 = .slice A' k c ∧ k ≤ c ∧ c ≤ maxLen ∧ Reads w w.heap.size 1 A' k (bytesV x.1.data)
  len : n ≤ maxLen
def TurnsSpec : Prop := ∀ (w0 : World) (gp : Nat) (b : Nat → Nat) (d : PairD) (w : World) (A : Option Addr) (n c : Nat) (ls : List (TurnD × Value)), PairAt w0 gp b d w → Kept d 1000 1000 1000 → TurnsIn w0 A n ls →
    Calls Try.prog 23 #[.pointer (some ⟨gp, 0, none⟩), .slice A n c] w fun r w' => r = .returned (.bool true) ∧ PairAt w0 gp b (turnsP d (ls.map (·.1))).1 w' ∧ Kept (turnsP d (ls.map (·.1))).1 10000 10000 10000
end Go.Proofs.Ytkfpmljlgpobjaa
