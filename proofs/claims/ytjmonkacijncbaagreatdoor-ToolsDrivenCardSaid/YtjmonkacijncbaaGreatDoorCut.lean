/- The contract of ringkeep4.cut: bytes, cut to so many at most. -/
import Derived.Test.YtjmonkacijncbaaGreatDoorRows
import Derived.Test.YtjmonkacijncbaaGreatDoorMem
import Derived.WalkKit
import Derived.WalkSpells
namespace Go.Proofs.YtjmonkacijncbaaGreatDoor
open Go.RowKit
set_option linter.unusedVariables false

theorem cut_any (A : Option Addr) (n c k : Nat) (w : World) (hn : n ≤ c) (hc : c ≤ maxLen) (hk : k ≤ 9223372036854775807) :
    Calls Tryz.prog 9 #[.slice A n c, .int .i64 k] w fun e w' => e = .returned (.slice A (min n k) c) ∧ w = w' := by
  unfold maxLen at hc
  have h1 : k < n → min n k = k := fun h => Nat.min_eq_right (by omega)
  have h2 : ¬ k < n → min n k = n := fun h => Nat.min_eq_left (by omega)
  have H1 := hide h1
  have H2 := hide h2
  clear h1 h2
  by_cases h : k < n
  · rw [H1.out h]
    go_enter Tryz.func9, Tryz.ntmps9
    go_wp2
    go_ret
    exact ⟨rfl, rfl⟩
  · rw [H2.out h]
    go_enter Tryz.func9, Tryz.ntmps9
    go_wp2
    go_ret
    exact ⟨rfl, rfl⟩

end Go.Proofs.YtjmonkacijncbaaGreatDoor
