/- The walk of PipeLone. -/
import Derived.Test.YtoicpnpahjmegaaPipeTwo
import Derived.Test.YtoicpnpahjmegaaRest
import Derived.Test.YtoicpnpahjmegaaCut
namespace Go.Proofs.Ytoicpnpahjmegaa
open Go.RowKit
set_option linter.unusedVariables false

set_option maxHeartbeats 4000000 in
set_option maxRecDepth 100000 in
theorem lone_walk (A : Option Addr) (n c : Nat) (xs : List UInt8) (z : Int) (w : World) (hx : Reads w w.heap.size 1 A n (bytesV xs)) (hn : n ≤ c) (hc : c ≤ maxLen) (z1 : -9223372036854775808 ≤ z) (z2 : z ≤ 9223372036854775807) :
    Calls Try.prog 5 #[.slice A n c, .int .i64 z] w fun e w' => e = .returned (.bool true) ∧ Ext w w' := by
  obtain ⟨i0, hi0, hz0, hz1, hz2⟩ := info_parts u8_info
  have HX := hide hx
  clear hx
  go_enter Try.func5, Try.ntmps5
  go_wp2_with fail
  refine (cut_any A n c 60 w hn hc (by omega)).mono ?_
  rintro e w' ⟨rfl, rfl⟩
  go_wp2_with fail
  refine (rest_any z 90 w z1 z2 (by omega) (by omega)).mono ?_
  rintro e w' ⟨rfl, rfl⟩
  obtain ⟨k, hk, hk2⟩ : ∃ k : Nat, restZ z 90 = (k : Int) ∧ k < 90 := rest_nat z 90 (by omega)
  rw [hk]
  obtain ⟨m, hm⟩ : ∃ m, m = min n 60 := ⟨_, rfl⟩
  rw [← hm]
  have hr1 : Reads w w.heap.size 1 A m (bytesV (xs.take m)) := by rw [← bytesV_take]; exact HX.out.take (by omega)
  have hl1 : (xs.take m).length = m := by have := hr1.1; rw [bytesV_length] at this; omega
  generalize xs.take m = X at *
  have hm1 : m ≤ 60 := by omega
  have hmc : m ≤ c := by omega
  have R1 := hide hr1
  have L1 := hide hl1
  clear hm hk z1 z2 HX hr1 hl1
  go_wp2_with fail
  refine (new_st w).mono ?_
  rintro e w1 ⟨rfl, hb1, hx1⟩
  have hlt := hb1.lt
  go_wp2_with fail
  refine (make_st (w0 := w) w.heap.size 0 nones w1 hb1 hx1 (Nat.le_refl _) (by omega) rfl rfl (fun j hj => by omega)).mono ?_
  rintro e w2 ⟨rfl, h2, _⟩
  go_wp2_with fail
  refine (make_st (w0 := w) w.heap.size 1 _ w2 h2.blk h2.ext (Nat.le_refl _) (by omega) rfl rfl (fun j hj => by obtain rfl : j = 0 := (by omega); exact ⟨_, rfl⟩)).mono ?_
  rintro e w3 ⟨rfl, h3, k3⟩
  have T3 := hide (two_made (Nat.le_refl _) hlt h2 h3 k3)
  generalize ((nones.setIfInBounds 0 (.pointer (some ⟨w1.heap.size, 0, none⟩))).setIfInBounds 1 (.pointer (some ⟨w2.heap.size, 0, none⟩))) = all at T3
  generalize w1.heap.size = g1 at T3
  generalize w2.heap.size = g2 at T3
  clear h2 h3 k3 hb1 hx1
  go_wp2_with fail
  refine (less_r _ 0 _ _ _ _ _ w3 T3.out.a.blk (by omega) T3.out.a.hp T3.out.a.one (by omega) (by omega) (by omega)).mono ?_
  rintro e w4 ⟨rfl, o4, k4⟩
  have T4 := hide (T3.out.onA (T3.out.a.less o4 k4) (k4.any _) (.inl rfl))
  clear T3 o4 k4
  go_wp2_with fail
  refine (less_w _ 1 _ _ _ _ _ w4 T4.out.b.blk (by omega) T4.out.b.hp T4.out.b.one (by omega) (by omega) (by omega)).mono ?_
  rintro e w5 ⟨rfl, o5, k5⟩
  have T5 := hide (T4.out.onB (T4.out.b.less o5 k5) (k5.any _) (.inl rfl))
  clear T4 o5 k5
  have hcv := Lib.run_convert_bytes_const (P := Try.prog) w5 22 5 #[.int .u8 120] 1 1 Try.underlying22 Try.underlying5
  have hx5 : Ext w5 (w5.alloc (.cells #[.int .u8 120] 5 (1, 2))) := by ((repeat (first | with_reducible exact Ext.refl _ | with_reducible assumption | with_reducible refine Ext.alloc ?_ _ | with_reducible refine Ext.drew ?_ | with_reducible refine Ext.drewN ?_ _ | with_reducible refine Ext.setCell ?_ (by first | exact Nat.le_refl _ | assumption | (simp; done) | omega) _ | with_reducible refine Ext.trans ?_ (by with_reducible assumption))); done)
  have HLIT := hide (reads_lit w5 [120] 5 (1, 2))
  have HRX := hide ((T5.out.a.ext.trans hx5).reads R1.out (Nat.le_refl _))
  clear R1
  go_wp2_with (at_builtin; refine wpList_append_lit _ rfl (.tmp 45) (.tmp 46) _ rfl 5 i0 _ 1 1 Try.underlying22 hi0 hz0 hz1 hz2 rfl (by omega) (w5.heap.size + 1) ⟨w5.heap.size, 0, none⟩ 1 (bytesV [120]) rfl HLIT.out (by simp) w.heap.size A m c (bytesV X) rfl HRX.out (bytesV_one _) (by simp only [maxLen]; omega) (by omega) ?_; intro A6 c6 w6 r6 hc6 x6)
  have T6 := hide (T5.out.keep (hx5.trans x6))
  clear T5 HLIT HRX hcv hx5 x6 r6
  refine (write_pipe _ 0 _ _ _ _ A6 (1 + m) c6 w6 T6.out.a.blk (by omega) T6.out.a.hp T6.out.a.one (by omega) (by omega)).mono ?_
  rintro e w7 ⟨rfl, rfl⟩
  go_wp2_with fail
  refine (read_st k 0 w6 T6.out.b (by omega) (by omega) (by simp) (by omega)).mono ?_
  rintro e w7 ⟨A7, c7, rfl, o7, v7, h7, k7, e7⟩
  have T7 := hide (T6.out.onB h7 k7 e7)
  clear T6 o7 h7 k7 e7
  go_wp2_with fail
  refine (read_state _ 0 _ _ _ _ 1 w7 T7.out.a.blk (by omega) T7.out.a.hp T7.out.a.one (by omega)).mono ?_
  rintro e w8 ⟨rfl, rfl⟩
  have hcv := Lib.run_convert_bytes_const (P := Try.prog) w7 22 5 #[.int .u8 120] 1 1 Try.underlying22 Try.underlying5
  have hx8 : Ext w7 (w7.alloc (.cells #[.int .u8 120] 5 (1, 2))) := by ((repeat (first | with_reducible exact Ext.refl _ | with_reducible assumption | with_reducible refine Ext.alloc ?_ _ | with_reducible refine Ext.drew ?_ | with_reducible refine Ext.drewN ?_ _ | with_reducible refine Ext.setCell ?_ (by first | exact Nat.le_refl _ | assumption | (simp; done) | omega) _ | with_reducible refine Ext.trans ?_ (by with_reducible assumption))); done)
  go_wp2_with fail
  refine (write_state _ 1 _ _ _ _ _ 1 1 _ (T7.out.keep hx8).b.blk (by omega) T7.out.b.hp (T7.out.keep hx8).b.one (by omega)).mono ?_
  rintro e w9 ⟨rfl, rfl⟩
  clear hcv
  go_wp2_with fail
  go_ret
  exact ⟨rfl, T7.out.a.ext.trans hx8⟩
end Go.Proofs.Ytoicpnpahjmegaa
