/- The walk of StreamSilent. -/
import Derived.Test.YtkfpmljlgpobjaaOutCall
import Derived.Deep.LoopGhost
import Derived.Lib.SlBytesConst
namespace Go.Proofs.Ytkfpmljlgpobjaa
open Go.RowKit
set_option linter.unusedVariables false

/-- An end that called, said so, and has been waiting. -/
def silE (iss wt tr : Int) : EndD := ⟨2, iss, (iss + 1) % 4294967296, (iss + 1) % 4294967296, (iss + 1) % 4294967296, 0, [], [], 0, false, false, false, wt, tr⟩
def againE (iss tr : Int) : EndD := { silE iss 0 tr with nxt := iss }
theorem silE_ok (iss wt tr : Int) (hi : U32 iss) (hw : 0 ≤ wt ∧ wt ≤ 3) (ht : 0 ≤ tr ∧ tr ≤ 7) : (silE iss wt tr).Ok := by
  obtain ⟨h1, h2⟩ := hi
  have hm : U32 ((iss + 1) % 4294967296) := ⟨by omega, by omega⟩
  exact ⟨by simp [silE], ⟨h1, h2⟩, hm, hm, hm, ⟨by simp [silE], by simp [silE]⟩, by simp [silE], by simp [silE], by simp [silE], hw, ht⟩
theorem againE_ok (iss tr : Int) (hi : U32 iss) (ht : 0 ≤ tr ∧ tr ≤ 7) : (againE iss tr).Ok := by
  have h := silE_ok iss 0 tr hi (by omega) ht
  exact ⟨h.st, h.una, hi, h.top, h.first, h.rcv, h.out, h.inn, h.peer, h.wait, h.tries⟩
theorem beginE_ok (iss : Int) (hi : U32 iss) : (beginE 2 iss).Ok := by
  obtain ⟨h1, h2⟩ := hi
  have hm : U32 ((iss + 1) % 4294967296) := ⟨by omega, by omega⟩
  exact ⟨by simp [beginE], ⟨h1, h2⟩, ⟨h1, h2⟩, ⟨h1, h2⟩, hm, ⟨by simp [beginE], by simp [beginE]⟩, by simp [beginE], by simp [beginE], by simp [beginE], by simp [beginE], by simp [beginE]⟩
theorem say_begin (iss : Int) (hi : U32 iss) : sayE (beginE 2 iss) 1 0 = silE iss 0 0 := by
  obtain ⟨h1, h2⟩ := hi
  have e : nxtE (beginE 2 iss) 1 0 = (iss + 1) % 4294967296 := by simp [nxtE, beginE, spanF]
  have hb : beforeB (beginE 2 iss).top ((iss + 1) % 4294967296) = true := by
    show decide (2147483648 ≤ (iss - (iss + 1) % 4294967296) % 4294967296) = true
    rw [decide_eq_true_iff]
    clear e
    omega
  simp only [sayE, e, hb, if_true]
  rfl
theorem say_again (iss tr : Int) (hi : U32 iss) : sayE (againE iss tr) 1 0 = silE iss 0 tr := by
  obtain ⟨h1, h2⟩ := hi
  have e : nxtE (againE iss tr) 1 0 = (iss + 1) % 4294967296 := by simp [nxtE, againE, spanF]
  have hb : beforeB (againE iss tr).top ((iss + 1) % 4294967296) = false := by
    show decide (2147483648 ≤ ((iss + 1) % 4294967296 - (iss + 1) % 4294967296) % 4294967296) = false
    rw [decide_eq_false_iff_not]
    clear e
    omega
  simp only [sayE, e, hb]
  rfl
theorem tick_wait (iss wt tr : Int) (hi : U32 iss) (h : wt + 1 < 3) : tickE (silE iss wt tr) = silE iss (wt + 1) tr := by
  obtain ⟨h1, h2⟩ := hi
  have hb : begunB (silE iss wt tr) = true := by simp [begunB, silE]
  have hu : (silE iss wt tr).una ≠ (silE iss wt tr).nxt := by simp only [silE]; omega
  unfold tickE
  rw [if_neg (by simp [hb, hu]), if_pos (by exact h)]
  rfl
theorem tick_again (iss tr : Int) (hi : U32 iss) (h : tr + 1 ≤ 6) : tickE (silE iss 2 tr) = againE iss (tr + 1) := by
  obtain ⟨h1, h2⟩ := hi
  have hb : begunB (silE iss 2 tr) = true := by simp [begunB, silE]
  have hu : (silE iss 2 tr).una ≠ (silE iss 2 tr).nxt := by simp only [silE]; omega
  unfold tickE
  rw [if_neg (by simp [hb, hu]), if_neg (by simp [silE]), if_neg (by simp only [silE]; omega)]
  rfl
theorem tick_gone (iss : Int) (hi : U32 iss) : tickE (silE iss 2 6) = { silE iss 0 7 with st := 5 } := by
  obtain ⟨h1, h2⟩ := hi
  have hb : begunB (silE iss 2 6) = true := by simp [begunB, silE]
  have hu : (silE iss 2 6).una ≠ (silE iss 2 6).nxt := by simp only [silE]; omega
  unfold tickE
  rw [if_neg (by simp [hb, hu]), if_neg (by simp [silE]), if_pos (by simp [silE])]
  rfl
def SilRel (w : World) (g : Nat) (iss : Int) (said i : Value) (wr : World) : Prop := ∃ k : Nat, k ≤ 18 ∧ i = .int .i64 k ∧ said = .int .i64 ((1 + k / 3 : Nat) : Int) ∧ EndB wr g (silE iss ((k % 3 : Nat) : Int) ((k / 3 : Nat) : Int)) nilV nilV ∧ Ext w wr
def lastE (iss : Int) (k : Nat) : EndD := if k = 3 then { silE iss 0 7 with st := 5 } else silE iss k 6
def LastRel (w : World) (g : Nat) (iss : Int) (i : Value) (wr : World) : Prop := ∃ k : Nat, k ≤ 3 ∧ i = .int .i64 k ∧ EndB wr g (lastE iss k) nilV nilV ∧ Ext w wr

set_option maxHeartbeats 4000000 in
set_option maxRecDepth 100000 in
theorem silent_walk (iss : Int) (hi : U32 iss) (w : World) :
    Calls Try.prog 3 #[.int .u32 iss] w fun r w' => r = .returned (.bool true) ∧ Ext w w' := by
  have HI := hide hi
  clear hi
  go_enter Try.func3, Try.ntmps3
  go_wp2_with fail
  refine (new_any w).mono ?_
  rintro r w1 ⟨rfl, he1, hx1⟩
  have HE1 := hide he1
  have HX1 := hide hx1
  clear he1 hx1
  go_wp2_with fail
  refine (call_ok w1 w.heap.size end0 nilV nilV iss HE1.out rfl HI.out).mono ?_
  rintro r w2 ⟨rfl, he2, hg2⟩
  have HE2 := hide he2
  have HX2 := hide (HX1.out.grown hg2 (fun k hk => by injection hk with hk; omega))
  clear he2 hg2 HE1 HX1
  go_wp2_with fail
  refine (out_says w2 w.heap.size (beginE 2 iss) nilV none 0 HE2.out (beginE_ok iss HI.out) (.inl rfl) rfl).mono ?_
  rintro r w3 ⟨A3, c3, A3', c3', rfl, -, he3, hg3⟩
  rw [say_begin iss HI.out] at he3
  have HE3 := hide he3
  have HX3 := hide (HX2.out.grown hg3 (fun k hk => by injection hk with hk; omega))
  clear he3 hg3 HE2 HX2
  go_wp2_with fail
  go_loopw [4, 21] (SilRel w w.heap.size iss) (fun _ i _ => 18 - (intOf i).toNat)
  case atStart => exact ⟨0, Nat.zero_le _, rfl, rfl, HE3.out, HX3.out⟩
  case round =>
    obtain ⟨k, hk, rfl, rfl, he, hx⟩ := hrel
    have HE := hide he
    have HX := hide hx
    clear he hx HE3 HX3
    by_cases hlt : k < 18
    · have hd : k / 3 ≤ 5 := by omega
      by_cases h2 : k % 3 = 2
      · have HEK := hide (show EndB wr w.heap.size (silE iss 2 ((k / 3 : Nat) : Int)) nilV nilV by have := HE.out; rw [h2] at this; exact this)
        have HK := hide (show (k + 1) / 3 = k / 3 + 1 ∧ (k + 1) % 3 = 0 by omega)
        clear h2 HE
        generalize k / 3 = q at *
        go_wp2_with fail
        refine (tick_any wr w.heap.size _ nilV nilV HEK.out (silE_ok iss 2 q HI.out (by omega) (by omega))).mono ?_
        rintro r w4 ⟨rfl, he4, hg4⟩
        rw [tick_again iss q HI.out (by omega)] at he4
        have HE4 := hide he4
        have HX4 := hide (HX.out.grown hg4 (fun k hk => by injection hk with hk; omega))
        clear he4 hg4 HEK HX
        go_wp2_with fail
        refine (out_says w4 w.heap.size (againE iss ((q : Int) + 1)) nilV none 0 HE4.out (againE_ok iss _ HI.out (by omega)) (.inl rfl) rfl).mono ?_
        rintro r w5 ⟨A5, c5, A5', c5', rfl, -, he5, hg5⟩
        rw [say_again iss _ HI.out] at he5
        have HE5 := hide he5
        have HX5 := hide (HX4.out.grown hg5 (fun k hk => by injection hk with hk; omega))
        clear he5 hg5 HE4 HX4
        go_wp2_with fail
        go_roundw
        case rel => exact ⟨k + 1, by omega, by go_num, by rw [HK.out.1]; go_num, by rw [HK.out.1, HK.out.2]; exact HE5.out, HX5.out⟩
        case measure => simp [intOf]; omega
      · have HK := hide (show (k + 1) / 3 = k / 3 ∧ (k + 1) % 3 = k % 3 + 1 by omega)
        have hm : k % 3 + 1 < 3 := by omega
        clear h2
        generalize k / 3 = q at *
        generalize k % 3 = p at *
        go_wp2_with fail
        refine (tick_any wr w.heap.size _ nilV nilV HE.out (silE_ok iss p q HI.out (by omega) (by omega))).mono ?_
        rintro r w4 ⟨rfl, he4, hg4⟩
        rw [tick_wait iss p q HI.out (by omega)] at he4
        have HE4 := hide he4
        have HX4 := hide (HX.out.grown hg4 (fun k hk => by injection hk with hk; omega))
        clear he4 hg4 HE HX
        go_wp2_with fail
        refine (out_silent w4 w.heap.size (silE iss ((p : Int) + 1) q) nilV nilV HE4.out (.inl rfl) (by have := HI.out.1; have := HI.out.2; simp only [silE]; omega)).mono ?_
        rintro r w5 ⟨rfl, d, rfl⟩
        go_wp2_with fail
        go_roundw
        case rel => exact ⟨k + 1, by omega, by go_num, by rw [HK.out.1]; go_num, by rw [HK.out.1, HK.out.2]; exact HE4.out.drewN d, HX4.out.drewN d⟩
        case measure => simp [intOf]; omega
    · obtain rfl : k = 18 := by omega
      have HE' := hide (show EndB wr w.heap.size (silE iss 0 6) nilV nilV from HE.out)
      clear HE
      go_wp2_with fail
      refine (tell_any wr w.heap.size (silE iss 0 6) none 0 0 none 0 0 HE'.out).mono ?_
      rintro r w6 ⟨rfl, d, rfl⟩
      have HE6 := hide (HE'.out.drewN d)
      have HX6 := hide (HX.out.drewN d)
      clear HE' HX
      generalize wr.drewN d = w6 at *
      go_wp2_with fail
      go_loopw [37] (LastRel w w.heap.size iss) (fun i _ => 3 - (intOf i).toNat)
      case atStart => exact ⟨0, Nat.zero_le _, rfl, HE6.out, HX6.out⟩
      case round =>
        obtain ⟨j, hj, rfl, he, hx⟩ := hrel
        have HE := hide he
        have HX := hide hx
        clear he hx HE6 HX6
        by_cases hlt3 : j < 3
        · have HEJ := hide (show EndB wr w.heap.size (silE iss j 6) nilV nilV by have := HE.out; rwa [lastE, if_neg (by omega)] at this)
          have HNX := hide (show tickE (silE iss j 6) = lastE iss (j + 1) by
            by_cases e : j = 2
            · subst e; exact tick_gone iss HI.out
            · rw [lastE, if_neg (by omega)]; exact tick_wait iss j 6 HI.out (by omega))
          clear HE
          go_wp2_with fail
          refine (tick_any wr w.heap.size _ nilV nilV HEJ.out (silE_ok iss j 6 HI.out (by omega) (by omega))).mono ?_
          rintro r w7 ⟨rfl, he7, hg7⟩
          rw [HNX.out] at he7
          have HE7 := hide he7
          have HX7 := hide (HX.out.grown hg7 (fun k hk => by injection hk with hk; omega))
          clear he7 hg7
          go_wp2_with fail
          go_roundw
          case rel => exact ⟨j + 1, by omega, by go_num, HE7.out, HX7.out⟩
          case measure => simp [intOf]; omega
        · obtain rfl : j = 3 := by omega
          have HE7 := hide (show EndB wr w.heap.size { silE iss 0 7 with st := 5 } nilV nilV from HE.out)
          clear HE
          go_wp2_with fail
          refine (tell_any wr w.heap.size { silE iss 0 7 with st := 5 } none 0 0 none 0 0 HE7.out).mono ?_
          rintro r w8 ⟨rfl, d, rfl⟩
          have HE8 := hide (HE7.out.drewN d)
          have HX8 := hide (HX.out.drewN d)
          clear HE7 HX
          generalize wr.drewN d = w8 at *
          have hcv := Lib.run_convert_bytes_const (P := Try.prog) w8 33 5 #[.int .u8 120] 1 1 Try.underlying33 Try.underlying5
          have HE9 := hide (HE8.out.alloc (.cells #[.int .u8 120] 5 (1, 2)))
          have HX9 := hide (HX8.out.alloc (.cells #[.int .u8 120] 5 (1, 2)))
          go_wp2_with fail
          refine (write_gone _ w.heap.size _ nilV nilV _ 1 1 HE9.out rfl (by omega)).mono ?_
          rintro r w9 ⟨rfl, rfl⟩
          go_wp2_with fail
          go_ret
          exact ⟨rfl, HX9.out⟩
end Go.Proofs.Ytkfpmljlgpobjaa
