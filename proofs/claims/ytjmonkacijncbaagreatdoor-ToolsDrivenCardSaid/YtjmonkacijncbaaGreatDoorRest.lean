/- The contract of ringkeep4.rest: a raw number as one from 0 to many - 1. -/
import Derived.Test.YtjmonkacijncbaaGreatDoorRows
import Derived.Test.YtjmonkacijncbaaGreatDoorMem
import Derived.WalkKit
import Derived.WalkSpells
namespace Go.Proofs.YtjmonkacijncbaaGreatDoor
open Go.RowKit
set_option linter.unusedVariables false

theorem rest_any (n k : Int) (w : World) (hn : -9223372036854775808 ≤ n) (hn' : n ≤ 9223372036854775807) (hk : 0 < k) (hk' : k ≤ 9223372036854775807) :
    Calls Tryz.prog 11 #[.int .i64 n, .int .i64 k] w fun e w' => e = .returned (.int .i64 (restZ n k)) ∧ w = w' := by
  by_cases h : n < 0
  · go_enter Tryz.func11, Tryz.ntmps11
    go_wp2
    go_ret
    refine ⟨ret_int ?_, rfl⟩
    show -(n + 1).tmod k = restZ n k
    rw [restZ, if_pos h, ← Int.neg_tmod, Int.tmod_eq_emod_of_nonneg (by omega)]
  · go_enter Tryz.func11, Tryz.ntmps11
    go_wp2
    go_ret
    refine ⟨ret_int ?_, rfl⟩
    show n % k = restZ n k
    rw [restZ, if_neg (by omega)]

end Go.Proofs.YtjmonkacijncbaaGreatDoor
