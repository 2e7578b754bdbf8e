/- The contract of ringkeep4.mean. -/
import Derived.Test.YtjmonkacijncbaaGreatDoorTlMean
namespace Go.Proofs.YtjmonkacijncbaaGreatDoor
open Go.RowKit
set_option linter.unusedVariables false

set_option maxHeartbeats 2000000 in
set_option maxRecDepth 100000 in
theorem kmean {nm : Bs} {args : List Bs} {f : Bs → Bs} {st : Bs → Int} (h : MeanAt nm args f st) (b : Bs) (w : World) (A : Option Addr) (n c B : Nat) (A' : Option Addr) (m c' B' : Nat) (hL : LibOk w) (hra : Reads w B 1 A n (strsV args)) (hB : B ≤ w.heap.size) (hnc : n ≤ c) (hrb : Reads w B' 1 A' m (bytesV b)) (hB' : B' ≤ w.heap.size) (hmc : m ≤ c') (hm : m ≤ 1024) (hA' : A' = none → c' = 0) :
    Calls Tryz.prog 12 #[.string (str nm), .slice A' m c', .slice A n c] w fun e w' => e = .returned (.string (str (f b))) ∧ Ext w w' := by
  have HM := hide (h b w A n c B A' m c' B' hL hra hB hnc hrb hB' hmc hm hA')
  clear hL hra hrb h hA'
  generalize str nm = NM at *
  generalize f b = o at *
  generalize st b = s at *
  go_enter Tryz.func12, Tryz.ntmps12
  go_wp2_with fail
  refine HM.out.mono ?_
  rintro e w1 ⟨A1, m1, c1, rfl, hl1, hmc1, hcm1, hr1, -, hx1⟩
  have hcv := conv_str' (P := Tryz.prog) Tryz.underlying22 Tryz.underlying5 Tryz.underlying9 hr1 c1
  have HX1 := hide hx1
  clear hl1 hr1 hx1
  go_wp2_with fail
  go_ret
  exact ⟨rfl, HX1.out⟩
end Go.Proofs.YtjmonkacijncbaaGreatDoor
