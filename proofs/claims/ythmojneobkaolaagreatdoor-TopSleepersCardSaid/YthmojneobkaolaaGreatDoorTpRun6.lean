/- The run of processors, weakly: a tick. -/
import Derived.Test.YthmojneobkaolaaGreatDoorTpRun5
namespace Go.Proofs.YthmojneobkaolaaGreatDoor
open Go.RowKit
set_option linter.unusedVariables false

set_option maxHeartbeats 8000000 in
set_option maxRecDepth 100000 in
theorem rtick_any {b : Nat} {w : World} {hr g n cp : Nat} {tick stamp : Int} {xs : List Value} (h : RunM b w hr g n cp tick stamp xs) (hn : n ≤ 100) :
    Calls Tryz.prog 22 #[.pointer (some ⟨hr, 0, none⟩), .int .i64 0] w fun e w' => RetI e ∧ RunK b w hr g n cp w' := by
  have c0 : w.cell? ⟨hr, 0, none⟩ = some (.int .i64 1) := h.box.cell 0
  have c1 : w.cell? ⟨hr, 1, none⟩ = some (.int .i64 tick) := h.box.cell 1
  have f1 := h.frozen 1
  have s1 := h.head (wrap64 (tick + 1))
  have H1 := hide s1.2.1
  have HK1 := hide (s1.2.2 1 (.int .i64 (wrap64 (tick + 1))))
  clear s1 h
  go_enter Tryz.func22, Tryz.ntmps22
  go_upto_region 4 with fail
  generalize w.setCell _ _ = w1 at *
  have HON1 := hide (on_any H1.out hn 0)
  clear c0 c1 f1
  go_wp2_with fail
  refine HON1.out.mono ?_
  rintro e w2 ⟨⟨v, rfl, hv⟩, rfl⟩
  rcases hv with rfl | ⟨j, hj, rfl⟩
  · have H2 := H1
    have HK2 := HK1
    clear H1 HK1 HON1
    have HTM := hide (time_any H2.out)
    go_wp2_with fail
    refine HTM.out.mono ?_
    rintro e w4 ⟨⟨now, rfl⟩, hx4⟩
    have H4 := hide (H2.out.ext hx4)
    have HK4 := hide (HK2.out.trans (KeepL.of hx4 _ _ _ _))
    clear hx4 HTM H2 HK2
    have c3 : w4.cell? ⟨hr, 3, none⟩ = some (.slice (some ⟨g, 0, none⟩) n cp) := H4.out.box.cell 3
    go_upto_region 16 with fail
    go_loopw [85] (FindRel n · w4) (fun v _ => n - (intOf v).toNat)
    case atStart => exact ⟨0, rfl, Nat.zero_le _, rfl⟩
    case round =>
      obtain ⟨i, rfl, hi, rfl⟩ := hrel
      by_cases hlt : i < n
      · have hlt' : (i : Int) < (n : Int) := by omega
        have k13 := (H4.out.task i hlt).out
        go_wp2_with fail
        go_roundw
        case rel => exact ⟨i + 1, by first | rfl | go_num, by omega, rfl⟩
        case measure => simp [intOf]; omega
      · obtain rfl : i = n := by omega
        have HON := hide (on_any H4.out hn 0)
        clear c3
        go_wp2_with fail
        refine HON.out.mono ?_
        rintro e w5 ⟨⟨v, rfl, hv⟩, rfl⟩
        rcases hv with rfl | ⟨j, hj, rfl⟩
        · have HX6 := H4.out
          have KX6 := HK4.out
          have HFL := hide (fill_any HX6 hn)
          go_wp2_with fail
          refine HFL.out.mono ?_
          rintro e w7 ⟨rfl, hk7⟩
          have HK7 := hide (RunK.trans KX6 hk7)
          clear hk7 HFL
          go_wp2_with fail
          go_ret
          exact ⟨⟨_, rfl⟩, HK7.out⟩
        · have HWT := hide (rwait_any H4.out j hj)
          go_wp2_with fail
          refine HWT.out.mono ?_
          rintro e w6 ⟨rfl, ⟨tk6, st6, ys6, h6⟩, hk6⟩
          have HK6 := hide (HK4.out.trans hk6)
          have HFL := hide (fill_any h6 hn)
          clear h6 hk6 HWT
          go_wp2_with fail
          refine HFL.out.mono ?_
          rintro e w7 ⟨rfl, hk7⟩
          have HK7 := hide (RunK.trans HK6.out hk7)
          clear hk7 HFL HK6
          go_wp2_with fail
          go_ret
          exact ⟨⟨_, rfl⟩, HK7.out⟩
  · obtain ⟨z1, k1, e1, -⟩ := (H1.out.task j hj).int 1 (by omega)
    obtain rfl := e1 rfl
    obtain ⟨z2, k2, -, -⟩ := (H1.out.task j hj).int 2 (by omega)
    obtain ⟨z9, k9, -, -⟩ := (H1.out.task j hj).int 9 (by omega)
    have f9 := (H1.out.task j hj).2 9
    have HCS := hide (cost_any z2)
    clear e1 HON1
    go_wp2_with fail
    refine (HCS.out w1).mono ?_
    rintro e w2 ⟨⟨cx, cy, rfl⟩, rfl⟩
    have s2 := H1.out.set j 9 hj (by omega) (.int .i64 (wrap64 (z9 + cx))) ⟨_, rfl⟩
    have H2 := hide s2.1
    have HK2 := hide (HK1.out.trans s2.2)
    clear s2 H1 HK1 HCS
    go_upto_region 14 with fail
    generalize w1.setCell _ _ = w2 at *
    clear k1 k2 k9 f9
    have HTM := hide (time_any H2.out)
    go_wp2_with fail
    refine HTM.out.mono ?_
    rintro e w4 ⟨⟨now, rfl⟩, hx4⟩
    have H4 := hide (H2.out.ext hx4)
    have HK4 := hide (HK2.out.trans (KeepL.of hx4 _ _ _ _))
    clear hx4 HTM H2 HK2
    have c3 : w4.cell? ⟨hr, 3, none⟩ = some (.slice (some ⟨g, 0, none⟩) n cp) := H4.out.box.cell 3
    go_upto_region 16 with fail
    go_loopw [85] (FindRel n · w4) (fun v _ => n - (intOf v).toNat)
    case atStart => exact ⟨0, rfl, Nat.zero_le _, rfl⟩
    case round =>
      obtain ⟨i, rfl, hi, rfl⟩ := hrel
      by_cases hlt : i < n
      · have hlt' : (i : Int) < (n : Int) := by omega
        have k13 := (H4.out.task i hlt).out
        go_wp2_with fail
        go_roundw
        case rel => exact ⟨i + 1, by first | rfl | go_num, by omega, rfl⟩
        case measure => simp [intOf]; omega
      · obtain rfl : i = n := by omega
        have HON := hide (on_any H4.out hn 0)
        clear c3
        go_wp2_with fail
        refine HON.out.mono ?_
        rintro e w5 ⟨⟨v, rfl, hv⟩, rfl⟩
        rcases hv with rfl | ⟨j, hj, rfl⟩
        · have HX6 := H4.out
          have KX6 := HK4.out
          have HFL := hide (fill_any HX6 hn)
          go_wp2_with fail
          refine HFL.out.mono ?_
          rintro e w7 ⟨rfl, hk7⟩
          have HK7 := hide (RunK.trans KX6 hk7)
          clear hk7 HFL
          go_wp2_with fail
          go_ret
          exact ⟨⟨_, rfl⟩, HK7.out⟩
        · have HWT := hide (rwait_any H4.out j hj)
          go_wp2_with fail
          refine HWT.out.mono ?_
          rintro e w6 ⟨rfl, ⟨tk6, st6, ys6, h6⟩, hk6⟩
          have HK6 := hide (HK4.out.trans hk6)
          have HFL := hide (fill_any h6 hn)
          clear h6 hk6 HWT
          go_wp2_with fail
          refine HFL.out.mono ?_
          rintro e w7 ⟨rfl, hk7⟩
          have HK7 := hide (RunK.trans HK6.out hk7)
          clear hk7 HFL HK6
          go_wp2_with fail
          go_ret
          exact ⟨⟨_, rfl⟩, HK7.out⟩
end Go.Proofs.YthmojneobkaolaaGreatDoor
