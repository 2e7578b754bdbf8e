/- The walk of PipeRoom. -/
import Derived.Test.YtoicpnpahjmegaaPipeAny
import Derived.Test.YtoicpnpahjmegaaRest
import Derived.Test.YtoicpnpahjmegaaCut
namespace Go.Proofs.Ytoicpnpahjmegaa
open Go.RowKit
set_option linter.unusedVariables false

theorem min_two {a b c : Nat} (h : a = min b c) : (b ≤ c ∧ a = b) ∨ (c < b ∧ a = c) := by omega
theorem room_two {y m x j : Nat} (h : y = min m (64 - (x - j))) (hj : j ≤ x) (hx : x ≤ 64) : ∃ d, d + x = 64 + j ∧ ((m ≤ d ∧ y = m) ∨ (d < m ∧ y = d)) :=
  ⟨64 - (x - j), by omega, min_two h⟩

set_option maxHeartbeats 4000000 in
set_option maxRecDepth 100000 in
theorem room_walk (A : Option Addr) (n c : Nat) (xs : List UInt8) (A' : Option Addr) (n' c' : Nat) (ys : List UInt8) (z : Int) (w : World) (hx : Reads w w.heap.size 1 A n (bytesV xs)) (hy : Reads w w.heap.size 1 A' n' (bytesV ys))
    (hn : n ≤ c) (hc : c ≤ maxLen) (hn' : n' ≤ c') (hc' : c' ≤ maxLen) (z1 : -9223372036854775808 ≤ z) (z2 : z ≤ 9223372036854775807) :
    Calls Try.prog 3 #[.slice A n c, .slice A' n' c', .int .i64 z] w fun e w' => e = .returned (.bool true) ∧ Ext w w' := by
  have HX := hide hx
  have HY := hide hy
  clear hx hy
  go_enter Try.func3, Try.ntmps3
  go_wp2_with fail
  refine (new_st w).mono ?_
  rintro e w1 ⟨rfl, hb1, hx1⟩
  go_wp2_with fail
  refine (make_st (w0 := w) w.heap.size 0 nones w1 hb1 hx1 (Nat.le_refl _) (by omega) rfl rfl (fun j hj => by omega)).mono ?_
  rintro e w2 ⟨rfl, h2, _⟩
  go_wp2_with fail
  refine (cut_any A n c 200 w2 hn hc (by omega)).mono ?_
  rintro e w2 ⟨rfl, rfl⟩
  go_wp2_with fail
  refine (cut_any A' n' c' 200 w2 hn' hc' (by omega)).mono ?_
  rintro e w2 ⟨rfl, rfl⟩
  go_wp2_with fail
  refine (rest_any z 100 w2 z1 z2 (by omega) (by omega)).mono ?_
  rintro e w2 ⟨rfl, rfl⟩
  obtain ⟨k, hk, hk2⟩ : ∃ k : Nat, restZ z 100 = (k : Int) ∧ k < 100 := rest_nat z 100 (by omega)
  rw [hk]
  have hl := bytesV_length xs
  obtain ⟨m, hm⟩ : ∃ m, m = min n 200 := ⟨_, rfl⟩
  obtain ⟨m', hm'⟩ : ∃ m, m = min n' 200 := ⟨_, rfl⟩
  rw [← hm, ← hm']
  have hr1 : Reads w w.heap.size 1 A m (bytesV (xs.take m)) := by rw [← bytesV_take]; exact HX.out.take (by omega)
  have hr2 : Reads w w.heap.size 1 A' m' (bytesV (ys.take m')) := by rw [← bytesV_take]; exact HY.out.take (by omega)
  have hl1 : (xs.take m).length = m := by have := hr1.1; rw [bytesV_length] at this; omega
  have hl2 : (ys.take m').length = m' := by have := hr2.1; rw [bytesV_length] at this; omega
  generalize xs.take m = X at *
  generalize ys.take m' = Y at *
  have hm1 : m ≤ 200 := by omega
  have hm2 : m' ≤ 200 := by omega
  have hmc : m ≤ c := by omega
  have hmc' : m' ≤ c' := by omega
  clear hm hm' hk z1 z2 HX HY hl
  have R1 := hide hr1
  have R2 := hide hr2
  have L1 := hide hl1
  have L2 := hide hl2
  have H2 := hide h2
  clear hr1 hr2 hl1 hl2 h2
  go_wp2_with fail
  refine (write_both A m c w.heap.size X w2 H2.out (by decide) (by decide) (H2.out.ext.reads R1.out (Nat.le_refl _)) L1.out (by omega) hmc).mono ?_
  rintro e w3 ⟨x, q3, rfl, hx, hq3, v3, h3⟩
  have hq3' : q3 = 0 := by simp at hq3; omega
  subst hq3'
  have H3 := hide h3
  have hxm : x = min m 64 := by simpa using hx
  clear hx hq3 h3
  go_wp2_with fail
  refine (read_both k w3 H3.out (by decide) (by omega)).mono ?_
  rintro e w4 ⟨A4, j, c4, q4, rfl, hj, hq4, ho4, v4, h4⟩
  have H4 := hide h4
  have hX : ([] ++ X.take x).length = x := by rw [List.nil_append, List.length_take, L1.out]; omega
  rw [hX] at hj hq4
  have hX2 : (([] ++ X.take x).drop j).length = x - j := by rw [List.length_drop, hX]
  clear h4 ho4
  have HX2 := hide hX2
  have HQ4 := hide hq4
  have HJ := hide hj
  have HXM := hide hxm
  clear hX hX2 hq4 hj hxm
  have tc : ((64 : Int) < (m : Int) ∧ x = 64) ∨ (¬ (64 : Int) < (m : Int) ∧ x = m) := by have := HXM.out; omega
  rcases tc with ⟨t, rfl⟩ | ⟨t, rfl⟩
  all_goals
    have jx : (j : Int) ≤ 64 := by have := HJ.out; have := HXM.out; omega
    go_wp2_with fail
    refine (write_both A' m' c' w.heap.size Y w4 H4.out (by decide) (by decide) (H4.out.ext.reads R2.out (Nat.le_refl _)) L2.out (by omega) hmc').mono ?_
    rintro e w5 ⟨y, q5, rfl, hy, hq5, v5, h5⟩
    rw [HX2.out] at hy hq5
    have H5 := hide h5.ext
    have HY := hide hy
    have HQ5 := hide hq5
    clear hy hq5 h5 HX2 H2 H3 H4 R1 R2 L1 L2
    go_wp2_with fail
    refine (live_ok w5).mono ?_
    rintro e w6 ⟨rfl, hx6⟩
    have HX6 := hide (H5.out.trans hx6)
    clear hx6 H5 hb1 hx1
    go_wp2_with fail
    all_goals
      go_ret
      refine ⟨?_, HX6.out⟩
      have e1 := HQ4.out
      have e2 := min_two HJ.out
      obtain ⟨d, e3, e6⟩ := room_two HY.out (by have := HJ.out; omega) (by have := HXM.out; omega)
      have e4 := HQ5.out
      clear HX6 HQ4 HJ HY HQ5 HXM
      try simp only [bne_iff_ne, ne_eq, bne_eq_false_iff_eq] at *
      first
        | (exfalso; omega)
        | (simp; omega)
  done
end Go.Proofs.Ytoicpnpahjmegaa
