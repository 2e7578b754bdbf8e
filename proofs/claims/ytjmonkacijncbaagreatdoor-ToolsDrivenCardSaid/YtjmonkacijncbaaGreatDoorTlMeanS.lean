/- The contract of tools.Mean at sort. Printed by gen_means.py. -/
import Derived.Test.YtjmonkacijncbaaGreatDoorTlMean
import Derived.Test.YtjmonkacijncbaaGreatDoorTlSeq
namespace Go.Proofs.YtjmonkacijncbaaGreatDoor
open Go.RowKit
set_option linter.unusedVariables false

theorem picks_sortS : Picks sortS := picks_sort _
set_option maxHeartbeats 4000000 in
set_option maxRecDepth 100000 in
theorem mean_sort : MeanAt [115, 111, 114, 116] [] (fun b => textP (sortS (linesP b))) (fun _ => 0) := by
  intro b w A n c B A' m c' B' hL hra hB hnc hrb hB' hmc hm hA'
  have hbm := bytes_len hrb
  have HCK := hide (check_sort w A n c B hL hra hB hnc)
  have HLN := hide (fun W (hx : Ext w W) => lines_any b A' m c' B' W (hx.reads hrb hB') (Nat.le_trans hB' hx.size) hbm (by omega) (hL.ext hx))
  have HLL := hide hL
  have HRA := hide hra
  have HRB := hide hrb
  have HBM := hide hbm
  have t0 : decide ((m : Int) > 1024) = false := decide_eq_false (by omega)
  have t0' : decide ((1024 : Int) < (m : Int)) = false := decide_eq_false (by omega)
  have HA' := hide hA'
  clear hL hra hrb hbm hA'
  show Calls _ _ #[.string ⟨#[115, 111, 114, 116]⟩, .slice A n c, .slice A' m c'] w _
  go_enter Tryz.func20, Tryz.ntmps20
  go_wp2_with fail
  refine HCK.out.mono ?_
  rintro e w1 ⟨rfl, hx1⟩
  have HX1 := hide hx1
  clear hx1
  go_wp2_with fail
  refine (HLN.out w1 HX1.out).mono ?_
  rintro e w2 ⟨A2, m2, c2, rfl, hmc2, hl2, hr2, hx2⟩
  have HX2 := hide (HX1.out.trans hx2)
  have HR2 := hide hr2
  have HL2 := hide hl2
  clear hx2 hr2 hl2
  have hsm := lines_small b
  have HSM := hide hsm
  have hm2 : m2 ≤ 1025 := by have := HL2.out; have := HBM.out; omega
  have HP := hide (pick_sort (linesP b) w2 A n c B A2 m2 c2 w2.heap.size (HLL.out.ext HX2.out) (HX2.out.reads HRA.out hB) (Nat.le_trans hB HX2.out.size) HR2.out (Nat.le_refl _) hmc2 (by omega) (fun s hs => by have h1 := hsm.2 s hs; have := HBM.out; omega))
  have HTL := hide (picks_text (picks_sortS) b (by have := HBM.out; omega))
  have HPL := hide ((picks_sortS (linesP b)).1)
  clear hsm
  go_wp2_with fail
  refine HP.out.mono ?_
  rintro e w3 ⟨A3, m3, c3, rfl, hmc3, hl3, hr3, hx3⟩
  have HX3 := hide (HX2.out.trans hx3)
  have HTX := hide (text_any _ A3 m3 c3 w3.heap.size w3 hr3 (Nat.le_refl _) hl3 (by have h1 := HPL.out; have h2 := HL2.out; rw [← hl3]; omega) HTL.out)
  clear hl3 hr3 hx3
  go_wp2_with fail
  refine HTX.out.mono ?_
  rintro e w4 ⟨A4, m4, c4, rfl, hl4, ho4, hx4⟩
  have HO4 := hide ho4
  have HX4 := hide (HX3.out.trans hx4)
  clear hl4 ho4 hx4
  go_wp2_with fail
  go_ret3
  exact mean_own HO4.out HX4.out
end Go.Proofs.YtjmonkacijncbaaGreatDoor
