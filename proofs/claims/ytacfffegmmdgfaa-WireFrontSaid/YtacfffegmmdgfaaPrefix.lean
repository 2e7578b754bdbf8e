/- strings.HasPrefix where it holds. -/
import Derived.Test.YtacfffegmmdgfaaMem
import Derived.Test.YtacfffegmmdgfaaStr
import Derived.WalkKit
import Derived.WalkSpells
import Derived.ProofKit
namespace Go.Proofs.Ytacfffegmmdgfaa
open Go.RowKit
set_option linter.unusedVariables false

theorem str_ext (a b : List UInt8) : (str (a ++ b)).extract 0 a.length = str a := by
  apply ByteArray.ext
  simp [str]
theorem prefixL_true (a b : List UInt8) (w : World) (ha : a.length + b.length ≤ 9223372036854775807) :
    Calls Try.prog 21 #[.string (str (a ++ b)), .string (str a)] w fun e w' => e = .returned (.bool true) ∧ w = w' := by
  have h1 : (str (a ++ b)).size = a.length + b.length := by rw [str_size, List.length_append]
  have h2 : (str a).size = a.length := str_size a
  have h3 := str_ext a b
  rw [← h2] at h3
  generalize str (a ++ b) = S at *
  generalize str a = T at *
  have h4 : T.size ≤ S.size := by omega
  have h5 : S.size ≤ 9223372036854775807 := by omega
  clear h1 h2
  go_enter Try.func21, Try.ntmps21
  go_wp2_with fail
  go_ret
  exact ⟨rfl, rfl⟩
theorem prefix_true (a b : List UInt8) (w : World) (ha : a.length + b.length ≤ 9223372036854775807) :
    Calls Try.prog 9 #[.string (str (a ++ b)), .string (str a)] w fun e w' => e = .returned (.bool true) ∧ w = w' := by
  have H := hide (prefixL_true a b w ha)
  go_enter Try.func9, Try.ntmps9
  go_wp2_with fail
  refine H.out.mono ?_
  rintro e w' ⟨rfl, rfl⟩
  go_wp2_with fail
  go_ret
  exact ⟨rfl, rfl⟩

end Go.Proofs.Ytacfffegmmdgfaa
