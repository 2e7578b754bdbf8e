/- The run of processors, weakly: blocking, waking. -/
import Derived.Test.YthmojneobkaolaaGreatDoorTpRun4
namespace Go.Proofs.YthmojneobkaolaaGreatDoor
open Go.RowKit
set_option linter.unusedVariables false

def RetI (e : Ending) : Prop := ∃ z : Int, e = .returned (.int .i64 z)
theorem RunK.trans {b : Nat} {w w1 w2 : World} {hr g n cp : Nat} (h : KeepL b [114, 118] [] [] w w1) (k : RunK b w1 hr g n cp w2) : RunK b w hr g n cp w2 := ⟨k.1, h.trans k.2⟩
set_option maxHeartbeats 8000000 in
set_option maxRecDepth 100000 in
theorem block_any {b : Nat} {w : World} {hr g n cp : Nat} {tick stamp : Int} {xs : List Value} (h : RunM b w hr g n cp tick stamp xs) (hn : n ≤ 100) (t : Int) :
    Calls Tryz.prog 197 #[.pointer (some ⟨hr, 0, none⟩), .int .i64 t] w fun e w' => RetI e ∧ RunK b w hr g n cp w' := by
  have HF := hide (find_any h hn t)
  have H := hide h
  clear h
  go_enter Tryz.func197, Tryz.ntmps197
  go_wp2_with fail
  refine HF.out.mono ?_
  rintro e w1 ⟨⟨v, rfl, hv⟩, rfl⟩
  rcases hv with rfl | ⟨i, hi, rfl⟩
  · go_wp2_with fail
    go_ret
    exact ⟨⟨_, rfl⟩, ⟨_, _, _, H.out⟩, KeepL.refl _ _ _ _ _⟩
  · obtain ⟨r, k12⟩ := (H.out.task i hi).ready
    cases r with
    | false =>
      go_wp2_with fail
      go_ret
      exact ⟨⟨_, rfl⟩, ⟨_, _, _, H.out⟩, KeepL.refl _ _ _ _ _⟩
    | true =>
      obtain ⟨z14, k14, -, -⟩ := (H.out.task i hi).int 14 (by omega)
      have f12 := (H.out.task i hi).2 12
      have f14 := (H.out.task i hi).2 14
      have s1 := H.out.set i 12 hi (by omega) (.bool false) ⟨_, rfl⟩
      have s2 := s1.1.set i 14 hi (by omega) (.int .i64 (-1)) ⟨_, rfl⟩
      have HS := hide s2.1
      have HK := hide (s1.2.trans s2.2)
      have HFL := hide (fill_any s2.1 hn)
      clear s1 s2
      go_wp2_with fail
      refine HFL.out.mono ?_
      rintro e w2 ⟨rfl, hk⟩
      have HK2 := hide (RunK.trans HK.out hk)
      clear hk HFL HK HS
      go_wp2_with fail
      go_ret
      exact ⟨⟨_, rfl⟩, HK2.out⟩
set_option maxHeartbeats 8000000 in
set_option maxRecDepth 100000 in
theorem wake_any {b : Nat} {w : World} {hr g n cp : Nat} {tick stamp : Int} {xs : List Value} (h : RunM b w hr g n cp tick stamp xs) (hn : n ≤ 100) (t : Int) :
    Calls Tryz.prog 46 #[.pointer (some ⟨hr, 0, none⟩), .int .i64 t] w fun e w' => RetI e ∧ RunK b w hr g n cp w' := by
  have HF := hide (find_any h hn t)
  have HLO := hide (low_any h hn)
  have H := hide h
  clear h
  go_enter Tryz.func46, Tryz.ntmps46
  go_wp2_with fail
  refine HF.out.mono ?_
  rintro e w1 ⟨⟨v, rfl, hv⟩, rfl⟩
  rcases hv with rfl | ⟨i, hi, rfl⟩
  · go_wp2_with fail
    go_ret
    exact ⟨⟨_, rfl⟩, ⟨_, _, _, H.out⟩, KeepL.refl _ _ _ _ _⟩
  · obtain ⟨r, k12⟩ := (H.out.task i hi).ready
    cases r with
    | true =>
      go_wp2_with fail
      go_ret
      exact ⟨⟨_, rfl⟩, ⟨_, _, _, H.out⟩, KeepL.refl _ _ _ _ _⟩
    | false =>
      go_wp2_with fail
      refine HLO.out.mono ?_
      rintro e w2 ⟨⟨z, k, rfl⟩, hx2⟩
      have HX := hide hx2
      have H2 := hide (H.out.ext hx2)
      clear hx2 k12 HLO HF
      obtain ⟨z1, k1, e1, -⟩ := (H2.out.task i hi).int 1 (by omega)
      obtain rfl := e1 rfl
      obtain ⟨z9, k9, -, -⟩ := (H2.out.task i hi).int 9 (by omega)
      have f9 := (H2.out.task i hi).2 9
      clear e1
      have HK2 := hide (KeepL.of HX.out b [114, 118] [] [])
      cases k with
      | false =>
        go_upto_region 9 with fail
        have H3 := H2
        have HK3 := HK2
        clear H2 HK2 k1 k9 f9
        have HTM := hide (time_any H3.out)
        obtain ⟨y1, q1, e1, -⟩ := (H3.out.task i hi).int 1 (by omega)
        obtain rfl := e1 rfl
        clear e1
        go_wp2_with fail
        refine HTM.out.mono ?_
        rintro e w4 ⟨⟨now, rfl⟩, hx4⟩
        have H4 := hide (H3.out.ext hx4)
        have HK4 := hide (HK3.out.trans (KeepL.of hx4 _ _ _ _))
        clear hx4 HTM H3 HK3 q1
        obtain ⟨y1, q1, e1, -⟩ := (H4.out.task i hi).int 1 (by omega)
        obtain rfl := e1 rfl
        clear e1
        go_upto_region 10 with fail
        go_quiet (fail)
        have H5 := hide (H4.out.ext ((Ext.refl w4).drewN nq))
        have HK5 := hide (HK4.out.trans (KeepL.of ((Ext.refl w4).drewN nq) _ _ _ _))
        clear H4 HK4 q1
        generalize w4.drewN nq = w5 at *
        obtain ⟨r5, q12⟩ := (H5.out.task i hi).ready
        have f12 := (H5.out.task i hi).2 12
        have s5 := H5.out.set i 12 hi (by omega) (.bool true) ⟨_, rfl⟩
        have HS5 := hide (HK5.out.trans s5.2)
        have HWT := hide (rwait_any s5.1 i hi)
        clear s5
        go_wp2_with fail
        refine HWT.out.mono ?_
        rintro e w6 ⟨rfl, ⟨tk6, st6, ys6, h6⟩, hk6⟩
        have HK6 := hide (HS5.out.trans hk6)
        have HFL := hide (fill_any h6 hn)
        clear h6 hk6 HS5 HWT H5 HK5 q12 f12
        go_wp2_with fail
        refine HFL.out.mono ?_
        rintro e w7 ⟨rfl, hk7⟩
        have HK7 := hide (RunK.trans HK6.out hk7)
        clear hk7 HFL HK6
        go_wp2_with fail
        go_ret
        exact ⟨⟨_, rfl⟩, HK7.out⟩
      | true =>
        by_cases hzz : z9 < z
        · have s1 := H2.out.set i 9 hi (by omega) (.int .i64 z) ⟨_, rfl⟩
          have H3 := hide s1.1
          have HK3 := hide (HK2.out.trans s1.2)
          clear s1
          go_upto_region 9 with fail
          generalize w2.setCell _ _ = w3 at *
          clear H2 HK2 k1 k9 f9
          have HTM := hide (time_any H3.out)
          obtain ⟨y1, q1, e1, -⟩ := (H3.out.task i hi).int 1 (by omega)
          obtain rfl := e1 rfl
          clear e1
          go_wp2_with fail
          refine HTM.out.mono ?_
          rintro e w4 ⟨⟨now, rfl⟩, hx4⟩
          have H4 := hide (H3.out.ext hx4)
          have HK4 := hide (HK3.out.trans (KeepL.of hx4 _ _ _ _))
          clear hx4 HTM H3 HK3 q1
          obtain ⟨y1, q1, e1, -⟩ := (H4.out.task i hi).int 1 (by omega)
          obtain rfl := e1 rfl
          clear e1
          go_upto_region 10 with fail
          go_quiet (fail)
          have H5 := hide (H4.out.ext ((Ext.refl w4).drewN nq))
          have HK5 := hide (HK4.out.trans (KeepL.of ((Ext.refl w4).drewN nq) _ _ _ _))
          clear H4 HK4 q1
          generalize w4.drewN nq = w5 at *
          obtain ⟨r5, q12⟩ := (H5.out.task i hi).ready
          have f12 := (H5.out.task i hi).2 12
          have s5 := H5.out.set i 12 hi (by omega) (.bool true) ⟨_, rfl⟩
          have HS5 := hide (HK5.out.trans s5.2)
          have HWT := hide (rwait_any s5.1 i hi)
          clear s5
          go_wp2_with fail
          refine HWT.out.mono ?_
          rintro e w6 ⟨rfl, ⟨tk6, st6, ys6, h6⟩, hk6⟩
          have HK6 := hide (HS5.out.trans hk6)
          have HFL := hide (fill_any h6 hn)
          clear h6 hk6 HS5 HWT H5 HK5 q12 f12
          go_wp2_with fail
          refine HFL.out.mono ?_
          rintro e w7 ⟨rfl, hk7⟩
          have HK7 := hide (RunK.trans HK6.out hk7)
          clear hk7 HFL HK6
          go_wp2_with fail
          go_ret
          exact ⟨⟨_, rfl⟩, HK7.out⟩
        · have t1 : decide (z9 < z) = false := decide_eq_false hzz
          have s1 := H2.out.set i 9 hi (by omega) (.int .i64 z9) ⟨_, rfl⟩
          have H3 := hide s1.1
          have HK3 := hide (HK2.out.trans s1.2)
          clear s1
          go_upto_region 9 with fail
          generalize w2.setCell _ _ = w3 at *
          clear H2 HK2 k1 k9 f9
          have HTM := hide (time_any H3.out)
          obtain ⟨y1, q1, e1, -⟩ := (H3.out.task i hi).int 1 (by omega)
          obtain rfl := e1 rfl
          clear e1
          go_wp2_with fail
          refine HTM.out.mono ?_
          rintro e w4 ⟨⟨now, rfl⟩, hx4⟩
          have H4 := hide (H3.out.ext hx4)
          have HK4 := hide (HK3.out.trans (KeepL.of hx4 _ _ _ _))
          clear hx4 HTM H3 HK3 q1
          obtain ⟨y1, q1, e1, -⟩ := (H4.out.task i hi).int 1 (by omega)
          obtain rfl := e1 rfl
          clear e1
          go_upto_region 10 with fail
          go_quiet (fail)
          have H5 := hide (H4.out.ext ((Ext.refl w4).drewN nq))
          have HK5 := hide (HK4.out.trans (KeepL.of ((Ext.refl w4).drewN nq) _ _ _ _))
          clear H4 HK4 q1
          generalize w4.drewN nq = w5 at *
          obtain ⟨r5, q12⟩ := (H5.out.task i hi).ready
          have f12 := (H5.out.task i hi).2 12
          have s5 := H5.out.set i 12 hi (by omega) (.bool true) ⟨_, rfl⟩
          have HS5 := hide (HK5.out.trans s5.2)
          have HWT := hide (rwait_any s5.1 i hi)
          clear s5
          go_wp2_with fail
          refine HWT.out.mono ?_
          rintro e w6 ⟨rfl, ⟨tk6, st6, ys6, h6⟩, hk6⟩
          have HK6 := hide (HS5.out.trans hk6)
          have HFL := hide (fill_any h6 hn)
          clear h6 hk6 HS5 HWT H5 HK5 q12 f12
          go_wp2_with fail
          refine HFL.out.mono ?_
          rintro e w7 ⟨rfl, hk7⟩
          have HK7 := hide (RunK.trans HK6.out hk7)
          clear hk7 HFL HK6
          go_wp2_with fail
          go_ret
          exact ⟨⟨_, rfl⟩, HK7.out⟩
end Go.Proofs.YthmojneobkaolaaGreatDoor
