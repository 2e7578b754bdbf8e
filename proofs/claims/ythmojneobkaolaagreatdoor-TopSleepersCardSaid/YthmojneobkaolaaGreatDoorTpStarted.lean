/- ringkeep5.Started: a kernel that has started. -/
import Derived.Test.YthmojneobkaolaaGreatDoorTpStart
import Derived.Test.YthmojneobkaolaaGreatDoorTpAskAll
namespace Go.Proofs.YthmojneobkaolaaGreatDoor
open Go.RowKit
set_option linter.unusedVariables false

set_option maxHeartbeats 4000000 in
set_option maxRecDepth 100000 in
theorem started_ok (w : World) : Calls Tryz.prog 4 #[] w (StartedPost w) := by
  show Calls Tryz.prog 4 #[] w fun e w' => ∃ H vd, e = .returned (.tuple #[pV H.hk, vd, .bool true]) ∧ KAt w.heap.size w' H ks0 ∧ Ext w w'
  go_enter Tryz.func4, Tryz.ntmps4
  go_wp2_with fail
  refine (make_ok _).mono ?_
  rintro e w1 ⟨hd, rs, rn, rfl, hd1, hx1⟩
  have HD1 := hide hd1
  have HX1 := hide hx1
  clear hd1 hx1
  go_wp2_with fail
  refine (start_ok HD1.out boot_ok).mono ?_
  rintro e w2 ⟨H, rfl, hk2, hx2⟩
  have HK2 := hide (hk2.base HX1.out.size)
  have HX2 := hide (HX1.out.trans hx2)
  clear hk2 hx2 HD1 HX1
  go_wp2_with fail
  go_ret3
  exact ⟨H, _, rfl, HK2.out, HX2.out⟩
end Go.Proofs.YthmojneobkaolaaGreatDoor
