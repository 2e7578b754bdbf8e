/- The walk of PipeFlows. -/
import Derived.Test.YtoicpnpahjmegaaPipeTwo
import Derived.Test.YtoicpnpahjmegaaRest
import Derived.Test.YtoicpnpahjmegaaCut
import Derived.Test.YtoicpnpahjmegaaStr
namespace Go.Proofs.Ytoicpnpahjmegaa
open Go.RowKit
set_option linter.unusedVariables false

theorem str_ext (a b : List UInt8) : (str (a ++ b)).extract 0 a.length = str a := by
  apply ByteArray.ext
  simp [str]
theorem prefixL_true (a b : List UInt8) (w : World) (ha : a.length + b.length ≤ 9223372036854775807) :
    Calls Try.prog 25 #[.string (str (a ++ b)), .string (str a)] w fun e w' => e = .returned (.bool true) ∧ w = w' := by
  have h1 : (str (a ++ b)).size = a.length + b.length := by rw [str_size, List.length_append]
  have h2 : (str a).size = a.length := str_size a
  have h3 := str_ext a b
  rw [← h2] at h3
  generalize str (a ++ b) = S at *
  generalize str a = T at *
  have h4 : T.size ≤ S.size := by omega
  have h5 : S.size ≤ 9223372036854775807 := by omega
  clear h1 h2
  go_enter Try.func25, Try.ntmps25
  go_wp2_with fail
  go_ret
  exact ⟨rfl, rfl⟩
theorem prefix_true (a b : List UInt8) (w : World) (ha : a.length + b.length ≤ 9223372036854775807) :
    Calls Try.prog 20 #[.string (str (a ++ b)), .string (str a)] w fun e w' => e = .returned (.bool true) ∧ w = w' := by
  have H := hide (prefixL_true a b w ha)
  go_enter Try.func20, Try.ntmps20
  go_wp2_with fail
  refine H.out.mono ?_
  rintro e w' ⟨rfl, rfl⟩
  go_wp2_with fail
  go_ret
  exact ⟨rfl, rfl⟩

/-- A piece as it lies. -/
structure PieceAt (w : World) (b off : Nat) (rd : Bool) (z : Int) (D : Option Addr) (m c : Nat) (ds : List UInt8) : Prop where
  c0 : w.cell? ⟨b, off, none⟩ = some (.bool rd)
  c1 : w.cell? ⟨b, off + 1, none⟩ = some (.int .i64 z)
  c2 : w.cell? ⟨b, off + 2, none⟩ = some (.slice D m c)
  z1 : -9223372036854775808 ≤ z
  z2 : z ≤ 9223372036854775807
  hm : m ≤ c
  hc : c ≤ maxLen
  reads : Reads w w.heap.size 1 D m (bytesV ds)
  len : ds.length = m
def FlowRel (w0 : World) (gp g : Nat) (all : Array Value) (len : Nat) (a b i : Value) (w : World) : Prop := ∃ (k : Nat) (S T : ByteArray) (rd bs : List UInt8) (v : Value), k ≤ len ∧ k ≤ 60 ∧ i = .int .i64 k ∧ a = .string S ∧ b = .string T ∧ S = str (rd ++ bs) ∧ T = str rd ∧ St w0 gp all 0 g 1 1 v bs w ∧ rd.length + bs.length ≤ 90 * k
def LastRel (w0 : World) (gp g : Nat) (all : Array Value) (tot : List UInt8) (b i : Value) (w : World) : Prop := ∃ (k : Nat) (T : ByteArray) (rd bs : List UInt8) (v : Value), k ≤ 4 ∧ i = .int .i64 k ∧ b = .string T ∧ T = str rd ∧ rd ++ bs = tot ∧ St w0 gp all 0 g 1 0 v bs w ∧ (0 < k → bs = [])

set_option maxHeartbeats 8000000 in
set_option maxRecDepth 100000 in
theorem flows_walk (A : Option Addr) (n c : Nat) (w : World) (hn : n ≤ c) (hc : c ≤ maxLen) (hA : 0 < n → ∃ b off, A = some ⟨b, off, none⟩ ∧ ∀ i, i < n → ∃ rd z D m c ds, PieceAt w b (off + i * 3) rd z D m c ds) :
    Calls Try.prog 7 #[.slice A n c] w fun e w' => e = .returned (.bool true) ∧ Ext w w' := by
  unfold maxLen at hc
  have HA := hide hA
  clear hA
  go_enter Try.func7, Try.ntmps7
  go_wp2_with fail
  refine (new_st w).mono ?_
  rintro e w1 ⟨rfl, hb1, hx1⟩
  go_wp2_with fail
  refine (make_st (w0 := w) w.heap.size 0 nones w1 hb1 hx1 (Nat.le_refl _) (by omega) rfl rfl (fun j hj => by omega)).mono ?_
  rintro e w2 ⟨rfl, h2, -⟩
  have H2 := hide h2
  clear h2 hb1 hx1
  generalize nones.setIfInBounds 0 (.pointer (some ⟨w1.heap.size, 0, none⟩)) = all at H2
  generalize w1.heap.size = g at H2
  go_wp2_with fail
  refine (live_ok w2).mono ?_
  rintro e w3 ⟨rfl, hx3⟩
  have H3 := hide (H2.out.keep hx3)
  clear hx3 H2
  go_wp2_with fail
  go_loopw [6, 7, 31] (FlowRel w w.heap.size g all n) (fun _ _ i _ => n - (intOf i).toNat)
  case atStart => exact ⟨0, _, _, [], [], _, Nat.zero_le _, Nat.zero_le _, rfl, rfl, rfl, rfl, rfl, H3.out, by simp⟩
  case round =>
    obtain ⟨k, S, T, rd, bs, v, hk, hk2, rfl, rfl, rfl, hS, hT, hst, hlen⟩ := hrel
    have HS := hide hS
    have HT := hide hT
    have HST := hide hst
    have HL := hide hlen
    clear hS hT hst hlen H3
    by_cases hlt : k < n ∧ k < 60
    · obtain ⟨hlt, hlt2⟩ := hlt
      obtain ⟨b, off, rfl, hp⟩ := HA.out (by omega)
      obtain ⟨r, z, D, m, cd, ds, P⟩ := hp k hlt
      clear hp
      have q0 := HST.out.ext.cell P.c0
      have q1 := HST.out.ext.cell P.c1
      have q2 := HST.out.ext.cell P.c2
      have z1 := P.z1
      have z2 := P.z2
      have HP := hide P
      clear P
      have hx4 : Ext wr (wr.alloc (.cells #[.bool r, .int .i64 z, .slice D m cd] 45)) := by ((repeat (first | with_reducible exact Ext.refl _ | with_reducible assumption | with_reducible refine Ext.alloc ?_ _ | with_reducible refine Ext.drew ?_ | with_reducible refine Ext.drewN ?_ _ | with_reducible refine Ext.setCell ?_ (by first | exact Nat.le_refl _ | assumption | (simp; done) | omega) _ | with_reducible refine Ext.trans ?_ (by with_reducible assumption))); done)
      have H4 := hide (HST.out.keep hx4)
      have hbk : Blk (wr.alloc (.cells #[.bool r, .int .i64 z, .slice D m cd] 45)) wr.heap.size 45 #[.bool r, .int .i64 z, .slice D m cd] := Blk.new _ _ _
      have HBK := hide hbk
      clear hx4 hbk HST
      cases r with
      | true =>
        go_wp2_with fail
        refine (rest_any z 80 _ z1 z2 (by omega) (by omega)).mono ?_
        rintro e w5 ⟨rfl, rfl⟩
        obtain ⟨j, hj, hj2⟩ : ∃ k : Nat, restZ z 80 = (k : Int) ∧ k < 80 := rest_nat z 80 (by omega)
        rw [hj]
        clear hj z1 z2 q0 q1 q2
        generalize wr.alloc (.cells #[.bool true, .int .i64 z, .slice D m cd] 45) = w4 at H4 HBK ⊢
        go_wp2_with fail
        refine (read_both j w4 H4.out (by decide) (by omega)).mono ?_
        rintro e w6 ⟨A6, y, c6, q, rfl, hy, hq, o6, v6, h6⟩
        have hq' : q = 0 ∨ q = 9 := by omega
        have hs6 := conv_str' (P := Try.prog) Try.underlying22 Try.underlying5 Try.underlying9 (Reads.of_own o6) c6
        have HY := hide hy
        have H6 := hide h6
        have hyl : y ≤ bs.length := by omega
        have hz6 : (str (bs.take y)).size ≤ bs.length := by rw [str_size, List.length_take]; omega
        have hzT : T.size + bs.length ≤ 90 * k := by rw [HT.out, str_size]; exact HL.out
        have HN := hide (show S = str ((rd ++ bs.take y) ++ bs.drop y) by rw [HS.out, List.append_assoc, List.take_append_drop])
        have HM := hide (show T ++ str (bs.take y) = str (rd ++ bs.take y) by rw [HT.out, str_append])
        have HLL := hide (show (rd ++ bs.take y).length + (bs.drop y).length ≤ 90 * (k + 1) by have := HL.out; simp only [List.length_append, List.length_take, List.length_drop]; omega)
        clear hy hq h6 o6 H4 HBK
        generalize str (bs.take y) = U at hs6 hz6 HM
        rcases hq' with rfl | rfl
        all_goals
          go_wp2_with fail
          go_roundw
          case rel => exact ⟨k + 1, S, _, _, _, v6, by omega, by omega, by go_num, rfl, rfl, HN.out, HM.out, H6.out, HLL.out⟩
          case measure => simp [intOf]; omega
      | false =>
        go_wp2_with fail
        refine (cut_any D m cd 90 _ HP.out.hm HP.out.hc (by omega)).mono ?_
        rintro e w5 ⟨rfl, rfl⟩
        obtain ⟨m', hm'⟩ : ∃ m', m' = min m 90 := ⟨_, rfl⟩
        rw [← hm']
        have hr1 : Reads w w.heap.size 1 D m' (bytesV (ds.take m')) := by rw [← bytesV_take]; exact HP.out.reads.take (by omega)
        have hl1 : (ds.take m').length = m' := by have := hr1.1; rw [bytesV_length] at this; omega
        have hm90 : m' ≤ 90 := by omega
        have hmc : m' ≤ cd := by have := HP.out.hm; omega
        generalize ds.take m' = X at hr1 hl1
        have R1 := hide hr1
        have L1 := hide hl1
        clear hm' hr1 hl1 z1 z2 q0 q1 q2 HP
        generalize wr.alloc (.cells #[.bool false, .int .i64 z, .slice D m cd] 45) = w4 at H4 HBK ⊢
        go_wp2_with fail
        refine (write_both D m' cd w.heap.size X w4 H4.out (by decide) (by decide) (H4.out.ext.reads R1.out (Nat.le_refl _)) L1.out (by omega) hmc).mono ?_
        rintro e w6 ⟨y, q, rfl, hy, hq, v6, h6⟩
        have hq' : q = 0 ∨ q = 9 := by omega
        have hym : y ≤ m' := by omega
        have hr6 : Reads w6 w.heap.size 1 D y (bytesV (X.take y)) := by rw [← bytesV_take]; exact (h6.ext.reads R1.out (Nat.le_refl _)).take hym
        have hs6 := conv_str' (P := Try.prog) Try.underlying22 Try.underlying5 Try.underlying9 hr6 cd
        have HY := hide hy
        have H6 := hide h6
        have hz6 : (str (X.take y)).size ≤ 90 := by rw [str_size, List.length_take]; omega
        have hzS : S.size ≤ 90 * k := by rw [HS.out, str_size, List.length_append]; exact HL.out
        have HM := hide (show S ++ str (X.take y) = str (rd ++ (bs ++ X.take y)) by rw [HS.out, str_append, List.append_assoc])
        have HLL := hide (show rd.length + (bs ++ X.take y).length ≤ 90 * (k + 1) by have := HL.out; simp only [List.length_append, List.length_take]; omega)
        have hyc : (y : Int) ≤ (cd : Int) := by omega
        have hy0 : (0 : Int) ≤ (y : Int) := by omega
        clear hy hq h6 hr6 H4 HBK R1 L1
        generalize str (X.take y) = U at hs6 hz6 HM
        rcases hq' with rfl | rfl
        all_goals
          go_wp2_with fail
          go_roundw
          case rel => exact ⟨k + 1, _, T, _, _, v6, by omega, by omega, by go_num, rfl, rfl, HM.out, HT.out, H6.out, HLL.out⟩
          case measure => simp [intOf]; omega
    · have fin : (k = n) ∨ (k < n ∧ k = 60) := by omega
      have HLB := HL.out
      have HPX := hide (prefix_true rd bs)
      rw [← HS.out, ← HT.out] at HPX
      rcases fin with rfl | ⟨hlt, rfl⟩
      · have H4 := HST
        clear HST HA
        go_wp2_with fail
        refine (HPX.out _ (by omega)).mono ?_
        rintro e w5 ⟨rfl, rfl⟩
        have hS5 := H4.out
        go_wp2_with fail
        refine (less_w _ 0 _ _ _ _ _ _ H4.out.blk (by omega) H4.out.hp H4.out.one (by omega) (by omega) (by omega)).mono ?_
        rintro e w6 ⟨rfl, o6, k6⟩
        have H6 := hide (H4.out.less o6 k6)
        clear o6 k6 hS5 H4
        go_wp2_with fail
        go_loopw [7, 102] (LastRel w w.heap.size g all (rd ++ bs)) (fun _ i _ => 4 - (intOf i).toNat)
        case atStart => exact ⟨0, _, _, _, _, by omega, rfl, rfl, HT.out, rfl, H6.out, fun h => absurd h (by omega)⟩
        case round =>
          obtain ⟨j, T', rd', bs', v', hj, rfl, rfl, hT', htot, hst, hnil⟩ := hrel
          have HT' := hide hT'
          have HTOT := hide htot
          have HST' := hide hst
          have HNIL := hide hnil
          have hll : rd'.length + bs'.length = rd.length + bs.length := by rw [← List.length_append, htot, List.length_append]
          have hll2 : rd'.length + bs'.length ≤ 5400 := by omega
          clear hT' htot hst hnil hll H6
          by_cases hlt4 : j < 4
          · go_wp2_with fail
            refine (read_st 64 bs'.length _ HST'.out (by omega) (by omega) (by have := HST'.out.len; omega) (by omega)).mono ?_
            rintro e w7 ⟨A7, c7, rfl, o7, v7, h7, -, -⟩
            rw [List.take_of_length_le (Nat.le_refl _)] at o7
            rw [List.drop_of_length_le (Nat.le_refl _)] at h7
            have hs7 := conv_str' (P := Try.prog) Try.underlying22 Try.underlying5 Try.underlying9 (Reads.of_own o7) c7
            have H7 := hide h7
            have hz6 : (str bs').size ≤ 5400 := by rw [str_size]; omega
            have hzT : T'.size ≤ 5400 := by rw [HT'.out, str_size]; omega
            have HM := hide (show T' ++ str bs' = str (rd' ++ bs') by rw [HT'.out, str_append])
            clear o7 h7 HST'
            generalize str bs' = U at hs7 hz6 HM
            go_wp2_with fail
            go_roundw
            case rel => exact ⟨j + 1, _, rd' ++ bs', [], v7, by omega, by go_num, rfl, HM.out, by rw [List.append_nil]; exact HTOT.out, H7.out, fun _ => rfl⟩
            case measure => simp [intOf]; omega
          · obtain rfl : j = 4 := by omega
            have hb0 := HNIL.out (by omega)
            have hTS : T' = S := by rw [HT'.out, HS.out, ← HTOT.out, hb0, List.append_nil]
            subst hTS
            clear hb0
            go_wp2_with fail
            go_ret
            exact ⟨by simp, HST'.out.ext⟩
      · obtain ⟨b, off, rfl, hp⟩ := HA.out (by omega)
        obtain ⟨r, z, D, m, cd, ds, P⟩ := hp 60 hlt
        have q0 := HST.out.ext.cell P.c0
        have q1 := HST.out.ext.cell P.c1
        have q2 := HST.out.ext.cell P.c2
        have hx4 : Ext wr (wr.alloc (.cells #[.bool r, .int .i64 z, .slice D m cd] 45)) := by ((repeat (first | with_reducible exact Ext.refl _ | with_reducible assumption | with_reducible refine Ext.alloc ?_ _ | with_reducible refine Ext.drew ?_ | with_reducible refine Ext.drewN ?_ _ | with_reducible refine Ext.setCell ?_ (by first | exact Nat.le_refl _ | assumption | (simp; done) | omega) _ | with_reducible refine Ext.trans ?_ (by with_reducible assumption))); done)
        have H4 := hide (HST.out.keep hx4)
        clear hp P HA HST hx4
        go_wp2_with fail
        generalize wr.alloc (.cells #[.bool r, .int .i64 z, .slice D m cd] 45) = w4 at H4 ⊢
        clear q0 q1 q2
        refine (HPX.out _ (by omega)).mono ?_
        rintro e w5 ⟨rfl, rfl⟩
        have hS5 := H4.out
        go_wp2_with fail
        refine (less_w _ 0 _ _ _ _ _ _ H4.out.blk (by omega) H4.out.hp H4.out.one (by omega) (by omega) (by omega)).mono ?_
        rintro e w6 ⟨rfl, o6, k6⟩
        have H6 := hide (H4.out.less o6 k6)
        clear o6 k6 hS5 H4
        go_wp2_with fail
        go_loopw [7, 102] (LastRel w w.heap.size g all (rd ++ bs)) (fun _ i _ => 4 - (intOf i).toNat)
        case atStart => exact ⟨0, _, _, _, _, by omega, rfl, rfl, HT.out, rfl, H6.out, fun h => absurd h (by omega)⟩
        case round =>
          obtain ⟨j, T', rd', bs', v', hj, rfl, rfl, hT', htot, hst, hnil⟩ := hrel
          have HT' := hide hT'
          have HTOT := hide htot
          have HST' := hide hst
          have HNIL := hide hnil
          have hll : rd'.length + bs'.length = rd.length + bs.length := by rw [← List.length_append, htot, List.length_append]
          have hll2 : rd'.length + bs'.length ≤ 5400 := by omega
          clear hT' htot hst hnil hll H6
          by_cases hlt4 : j < 4
          · go_wp2_with fail
            refine (read_st 64 bs'.length _ HST'.out (by omega) (by omega) (by have := HST'.out.len; omega) (by omega)).mono ?_
            rintro e w7 ⟨A7, c7, rfl, o7, v7, h7, -, -⟩
            rw [List.take_of_length_le (Nat.le_refl _)] at o7
            rw [List.drop_of_length_le (Nat.le_refl _)] at h7
            have hs7 := conv_str' (P := Try.prog) Try.underlying22 Try.underlying5 Try.underlying9 (Reads.of_own o7) c7
            have H7 := hide h7
            have hz6 : (str bs').size ≤ 5400 := by rw [str_size]; omega
            have hzT : T'.size ≤ 5400 := by rw [HT'.out, str_size]; omega
            have HM := hide (show T' ++ str bs' = str (rd' ++ bs') by rw [HT'.out, str_append])
            clear o7 h7 HST'
            generalize str bs' = U at hs7 hz6 HM
            go_wp2_with fail
            go_roundw
            case rel => exact ⟨j + 1, _, rd' ++ bs', [], v7, by omega, by go_num, rfl, HM.out, by rw [List.append_nil]; exact HTOT.out, H7.out, fun _ => rfl⟩
            case measure => simp [intOf]; omega
          · obtain rfl : j = 4 := by omega
            have hb0 := HNIL.out (by omega)
            have hTS : T' = S := by rw [HT'.out, HS.out, ← HTOT.out, hb0, List.append_nil]
            subst hTS
            clear hb0
            go_wp2_with fail
            go_ret
            exact ⟨by simp, HST'.out.ext⟩
end Go.Proofs.Ytoicpnpahjmegaa
