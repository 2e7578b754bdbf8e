/- The contracts of bind.checked, up, Spots. -/
import Derived.Test.YtljlniehbenefaaBdP
namespace Go.Proofs.Ytljlniehbenefaa
open Go.RowKit
set_option linter.unusedVariables false

abbrev spT : TypeId := 49
theorem sp_info : (Try.prog.info? 49).map (fun i => (i.zero, i.size, i.bytes)) = some (some (.agg #[.int .i64 0, .int .i64 0]), 2, 16) := by kernel_rfl
def StepRel (w : World) (n : Nat) (v : Value) (wr : World) : Prop := ∃ k : Nat, k ≤ n ∧ v = .int .i64 k ∧ Ext w wr
set_option maxHeartbeats 4000000 in
set_option maxRecDepth 100000 in
theorem checked_ok (A : Option Addr) (n c : Nat) (ps : List ObX) (w : World) (h : Good w A n ps) (hn : n ≤ 12) :
    Calls Try.prog 13 #[.slice A n c] w fun e w' => e = .returned (.int .i64 0) ∧ Ext w w' := by
  have HG := hide h
  clear h
  go_enter Try.func13, Try.ntmps13
  go_wp2_with fail
  go_loopw [11] (StepRel w n) (fun i _ => n - (intOf i).toNat)
  case atStart => exact ⟨0, Nat.zero_le _, rfl, Ext.refl _⟩
  case round =>
    obtain ⟨k, hk, rfl, hx⟩ := hrel
    have HX := hide hx
    by_cases hlt : k < n
    · obtain ⟨b, off, o, v, hi, rfl, -, hrd, hck, hsm, q0, q1, q2, q3⟩ := (HG.out.ext hx).at_ k hlt
      obtain ⟨A1, n1, c1, A2, n2, c2, A3, n3, c3, A4, n4, c4⟩ := v
      have hx1 := (Ext.refl wr).alloc (.cells #[.slice A1 n1 c1, .slice A2 n2 c2, .slice A3 n3 c3, .slice A4 n4 c4] obT)
      have hb := Blk.new wr obT #[.slice A1 n1 c1, .slice A2 n2 c2, .slice A3 n3 c3, .slice A4 n4 c4]
      have HC := hide (check_any o _ _ (hrd.ext hx1) hsm)
      have HCK := hide hck
      have HX1 := hide (hx.trans hx1)
      clear hrd hck hsm hx hx1 HX
      dsimp only at q0 q1 q2 q3
      go_upto_region 6 with fail
      generalize wr.alloc (.cells #[.slice A1 n1 c1, .slice A2 n2 c2, .slice A3 n3 c3, .slice A4 n4 c4] obT) = W at *
      generalize wr.heap.size = g at *
      have p0 : W.cell? ⟨g, 0, none⟩ = some (.slice A1 n1 c1) := hb.cell 0
      have p1 : W.cell? ⟨g, 1, none⟩ = some (.slice A2 n2 c2) := hb.cell 1
      have p2 : W.cell? ⟨g, 2, none⟩ = some (.slice A3 n3 c3) := hb.cell 2
      have p3 : W.cell? ⟨g, 3, none⟩ = some (.slice A4 n4 c4) := hb.cell 3
      clear hb q0 q1 q2 q3
      go_wp2_with fail
      refine HC.out.mono ?_
      rintro e w2 ⟨z, rfl, hz, hx2⟩
      obtain rfl := hz.2 HCK.out
      have HX2 := hide (HX1.out.trans hx2)
      clear hz hx2 p0 p1 p2 p3
      go_wp2_with fail
      go_roundw
      case rel => exact ⟨k + 1, by omega, by go_num, HX2.out⟩
      case measure => simp [intOf]; omega
    · obtain rfl : k = n := by omega
      go_wp2_with fail
      go_ret
      exact ⟨rfl, HX.out⟩
theorem upN_int (n k : Nat) (hn : n ≤ 100000) (hk : 0 < k) (hk' : k ≤ 100) : (((n : Int) + (k : Int) - 1).tdiv (k : Int)) * (k : Int) = (upN n k : Int) := by
  have h1 : ((n : Int) + (k : Int) - 1) = ((n + k - 1 : Nat) : Int) := by omega
  rw [h1]
  unfold upN
  rw [Int.tdiv_eq_ediv_of_nonneg (Int.natCast_nonneg _)]
  push_cast
  rfl
set_option maxHeartbeats 4000000 in
theorem up_any (n k : Nat) (w : World) (hn : n ≤ 100000) (hk : 0 < k) (hk' : k ≤ 100) :
    Calls Try.prog 14 #[.int .i64 (n : Int), .int .i64 (k : Int)] w fun e w' => e = .returned (.int .i64 (upN n k : Int)) ∧ w = w' := by
  have h1 := upN_int n k hn hk hk'
  have h2 := upN_bd n k hk
  have h3 : ((k : Int) == 0) = false := by simp; omega
  have h4 : ((n : Int) + (k : Int) - 1).tdiv (k : Int) ≤ 100100 := by
    rw [Int.tdiv_eq_ediv_of_nonneg (by omega)]
    exact Int.ediv_le_of_le_mul (by omega) (by have : (100100 : Int) * 1 ≤ 100100 * (k : Int) := Int.mul_le_mul_of_nonneg_left (by omega) (by omega); omega)
  have h5 : 0 ≤ ((n : Int) + (k : Int) - 1).tdiv (k : Int) := Int.tdiv_nonneg (by omega) (by omega)
  generalize hq : ((n : Int) + (k : Int) - 1).tdiv (k : Int) = q at *
  generalize upN n k = u at *
  go_enter Try.func14, Try.ntmps14
  go_wp2_with fail
  go_ret
  exact ⟨rfl, rfl⟩
/-- Spots so far. -/
def Sp1Rel (w : World) (os : List ObX) (v6 v7 v19 : Value) (wr : World) : Prop :=
  ∃ (k : Nat) (A : Option Addr) (c : Nat), k ≤ os.length ∧ v19 = .int .i64 k ∧ v7 = .int .i64 (cAt os k : Int) ∧ v6 = .slice A k c ∧ wr.ownsRow w.heap.size spT 2 (.slice A k c) k ((sp1 os k).flatMap spC) ∧ Ext w wr
def Sp2Rel (w : World) (os : List ObX) (A : Option Addr) (c : Nat) (v7 v39 : Value) (wr : World) : Prop :=
  ∃ k : Nat, k ≤ os.length ∧ v39 = .int .i64 k ∧ v7 = .int .i64 (dAt os k : Int) ∧ wr.ownsRow w.heap.size spT 2 (.slice A os.length c) os.length ((sp2 os k).flatMap spC) ∧ Ext w wr
theorem dAt_all (os : List ObX) : dAt os os.length = endL os := by unfold dAt endL; rw [List.take_length]
theorem cAt_all (os : List ObX) : cAt os os.length = 16 + cLen os := by unfold cAt; rw [List.take_length]
theorem cAt_next (os : List ObX) (k : Nat) (h : k < os.length) : cAt os (k + 1) = cAt os k + 4 * os[k].1.code.length := by unfold cAt; rw [cLen_next os k h]; omega
theorem dAt_next (os : List ObX) (k : Nat) (h : k < os.length) : dAt os (k + 1) = dAt os k + upN os[k].1.data.length 4 := by unfold dAt; rw [dLen_next os k h]; omega
theorem cAt_le (os : List ObX) (k : Nat) : cAt os k ≤ 16 + cLen os := by
  have := sum_take_le (fun p : ObX => 4 * p.1.code.length) os k
  unfold cAt cLen
  omega
theorem dAt_le (os : List ObX) (k : Nat) : dAt os k ≤ endL os := by
  have := sum_take_le (fun p : ObX => upN p.1.data.length 4) os k
  unfold dAt endL dLen
  omega
theorem endL_bd {os : List ObX} (h : ∀ p ∈ os, ChkOk p.1) (hn : os.length ≤ 12) : endL os ≤ 10000 := by
  have h1 := cLen_bd h hn
  have h2 := dLen_bd h hn
  have h3 := (upN_bd (16 + cLen os) 16 (by omega)).2
  unfold endL dBeg
  omega
set_option maxHeartbeats 8000000 in
set_option maxRecDepth 100000 in
theorem spots_any (A : Option Addr) (n c : Nat) (ps : List ObX) (w : World) (h : Good w A n ps) (hn : n ≤ 12) (hfit : endL ps ≤ 1024) :
    Calls Try.prog 9 #[.slice A n c] w fun e w' => ∃ A' c', e = .returned (.tuple #[.slice A' n c', .int .i64 (endL ps : Int), .int .i64 0]) ∧ w'.ownsRow w.heap.size spT 2 (.slice A' n c') n ((spotsL ps).flatMap spC) ∧ Ext w w' := by
  obtain ⟨i0, hi0, hz0, hz1, hz2⟩ := info_parts sp_info
  have HG := hide h
  have hpl := h.len
  have HCB := hide (cLen_bd h.chk (by omega))
  have HFIT := hide hfit
  clear h
  go_enter Try.func9, Try.ntmps9
  go_wp2_with fail
  refine (checked_ok A n c ps w HG.out hn).mono ?_
  rintro e w1 ⟨rfl, hx1⟩
  have HX1 := hide hx1
  clear hx1
  go_wp2_with fail
  go_loopw [6, 7, 19] (Sp1Rel w ps) (fun _ _ i _ => n - (intOf i).toNat)
  case atStart => exact ⟨0, none, 0, Nat.zero_le _, rfl, rfl, rfl, World.ownsRow_nil _ _ _ _, HX1.out⟩
  case round =>
    obtain ⟨k, A6, c6, hk, rfl, rfl, rfl, ho, hx⟩ := hrel
    have HX := hide hx
    have HO := hide ho
    clear ho hx HX1
    have hcb : cAt ps k ≤ 6160 := by have := cAt_le ps k; have := HCB.out; omega
    by_cases hlt : k < n
    · obtain ⟨b, off, o, v, hi, rfl, hpi, hrd, hck, hsm, q0, q1, q2, q3⟩ := (HG.out.ext HX.out).at_ k hlt
      obtain ⟨A1, n1, c1, A2, n2, c2, A3, n3, c3, A4, n4, c4⟩ := v
      have HNX := hide (show (cAt ps (k + 1) : Int) = (cAt ps k : Int) + 4 * (n1 : Int) by have h1 := cAt_next ps k hi; rw [hpi] at h1; have h2 : o.code.length = n1 := hrd.l1; dsimp only at h1; omega)
      have hn1 : n1 ≤ 128 := by have := hck.code; have := hrd.l1; dsimp only at this; omega
      have HS1 := hide (sp1_next ps k)
      have hb := Blk.new wr obT #[.slice A1 n1 c1, .slice A2 n2 c2, .slice A3 n3 c3, .slice A4 n4 c4]
      have hx1 := (Ext.refl wr).alloc (.cells #[.slice A1 n1 c1, .slice A2 n2 c2, .slice A3 n3 c3, .slice A4 n4 c4] obT)
      have HO1 := hide (hx1.own HO.out)
      have HX2 := hide (HX.out.trans hx1)
      clear hrd hck hsm hpi hx1 HO HX
      dsimp only at q0 q1 q2 q3
      generalize cAt ps k = ca at *
      go_upto_region 9 with fail
      generalize wr.alloc (.cells #[.slice A1 n1 c1, .slice A2 n2 c2, .slice A3 n3 c3, .slice A4 n4 c4] obT) = W at *
      generalize wr.heap.size = g at *
      clear q0 q1 q2 q3
      have HB := hide hb
      have HO2 := hide (HO1.out.alloc (.cells #[.int .i64 (ca : Int), .int .i64 0] spT))
      have HX3 := hide (HX2.out.alloc (.cells #[.int .i64 (ca : Int), .int .i64 0] spT))
      have HB2 := hide (hb.alloc (.cells #[.int .i64 (ca : Int), .int .i64 0] spT))
      have HRW := hide ((Blk.new W spT #[.int .i64 (ca : Int), .int .i64 0]).rowsF' 1 2 rfl)
      have HL1 := hide (show k + 1 ≤ maxLen by simp only [maxLen]; omega)
      have HL2 := hide (show (k + 1) * 16 ≤ 140737488355328 by omega)
      have HON := hide (show ∀ u ∈ [Value.int .i64 (ca : Int), .int .i64 0], u.oneCell' = true by simp [Value.oneCell'])
      have HNE := hide (own_blk_ne HO2.out HB2.out (by decide)).symm
      clear hb
      go_wp2_with (at_builtin; refine wpList_append_any _ rfl (.tmp 23) (.tmp 26) 42 rfl w.heap.size spT i0 _ 2 16 Try.underlying42 hi0 hz0 hz1 hz2 rfl (by decide) (.slice A6 k c6) k ((sp1 ps k).flatMap spC) rfl HO2.out _ _ 1 1 [.int .i64 (ca : Int), .int .i64 0] rfl HRW.out HON.out HL1.out HL2.out HX3.out.size ?_; intro A8 c8 w8 ho8 hg8 ha8; have HO8 := hide ho8; have HX8 := hide (HX3.out.grown hg8 (fun j hj => (HO2.out.lt j hj).1)); have p0 : w8.cell? ⟨g, 0, none⟩ = some (.slice A1 n1 c1) := (Blk.grown HB2.out hg8 HNE.out).cell 0; clear ho8 hg8 ha8)
      go_roundw
      case rel => exact ⟨k + 1, A8, c8, by omega, by go_num, by rw [HNX.out], rfl, by rw [HS1.out, List.flatMap_append]; exact HO8.out, HX8.out⟩
      case measure => simp [intOf]; omega
    · obtain rfl : k = n := by omega
      subst hpl
      have HUP := hide (fun W : World => calls_back (up_any (cAt ps ps.length) 16 W (by omega) (by omega) (by omega)))
      have HUE := hide (show upN (cAt ps ps.length) 16 = dAt ps 0 by rw [cAt_all]; unfold dAt dBeg; simp [dLen])
      rw [HUE.out] at HUP
      have HO2 := hide (show wr.ownsRow w.heap.size spT 2 (.slice A6 ps.length c6) ps.length ((sp2 ps 0).flatMap spC) by rw [sp2_zero]; exact HO.out)
      clear HUE HO
      generalize cAt ps ps.length = ca at *
      go_wp2_with fail
      refine (HUP.out _).mono ?_
      rintro e w2 ⟨rfl, rfl⟩
      go_wp2_with fail
      clear HUP
      go_loopw [7, 39] (Sp2Rel w ps A6 c6) (fun _ i _ => ps.length - (intOf i).toNat)
      case atStart => exact ⟨0, Nat.zero_le _, rfl, rfl, HO2.out, HX.out⟩
      case round =>
        obtain ⟨k, hk, rfl, rfl, ho, hx⟩ := hrel
        have HX3 := hide hx
        have HO3 := hide ho
        clear ho hx HX HO2
        have hdb : dAt ps k ≤ 1024 := Nat.le_trans (dAt_le ps k) HFIT.out
        by_cases hlt : k < ps.length
        · obtain ⟨b, off, o, v, hi, rfl, hpi, hrd, hck, hsm, q0, q1, q2, q3⟩ := (HG.out.ext HX3.out).at_ k hlt
          obtain ⟨A1, n1, c1, A2, n2, c2, A3, n3, c3, A4, n4, c4⟩ := v
          have hn2 : n2 ≤ 256 := by have := hck.data; have := hrd.l2; dsimp only at this; omega
          have HUP := hide (fun W : World => calls_back (up_any n2 4 W (by omega) (by omega) (by omega)))
          have HNX := hide (show (dAt ps (k + 1) : Int) = (dAt ps k : Int) + (upN n2 4 : Int) by have h1 := dAt_next ps k hi; rw [hpi] at h1; have h2 : o.data.length = n2 := hrd.l2; dsimp only at h1; rw [h2] at h1; omega)
          have hub := (upN_bd n2 4 (by omega)).2
          have HS2 := hide (sp2_next ps k hi)
          have hb := Blk.new wr obT #[.slice A1 n1 c1, .slice A2 n2 c2, .slice A3 n3 c3, .slice A4 n4 c4]
          have hx1 := (Ext.refl wr).alloc (.cells #[.slice A1 n1 c1, .slice A2 n2 c2, .slice A3 n3 c3, .slice A4 n4 c4] obT)
          have HO4 := hide (hx1.own HO3.out)
          have HX4 := hide (HX3.out.trans hx1)
          clear hrd hck hsm hpi hx1 HO3 HX3
          dsimp only at q0 q1 q2 q3
          generalize upN n2 4 = u at *
          generalize dAt ps k = da at *
          obtain ⟨g6, rfl, hg1, hg2, hg3, hg4⟩ := own_addr HO4.out (by omega)
          go_upto_region 16 with fail
          generalize wr.alloc (.cells #[.slice A1 n1 c1, .slice A2 n2 c2, .slice A3 n3 c3, .slice A4 n4 c4] obT) = W at *
          generalize wr.heap.size = g at *
          clear q0 q1 q2 q3
          have HB := hide hb
          have hk2 : k * 2 + 1 < ((sp2 ps k).flatMap spC).length := by rw [flat_length spC_len]; simp [sp2]; omega
          obtain ⟨q4, f4⟩ := own_cell HO4.out (k * 2 + 1) (List.getElem?_eq_getElem hk2)
          clear hb
          go_upto_region 17 with fail
          clear q4 f4
          have HNE := hide (own_blk_ne HO4.out HB.out (by decide))
          have ho5 := own_set HO4.out (k * 2 + 1) (.int .i64 (da : Int))
          rw [HS2.out] at ho5
          have HO5 := hide ho5
          have HX5 := hide (HX4.out.setCell (p := ⟨g6, k * 2 + 1, none⟩) hg1 (.int .i64 (da : Int)))
          have hb5 := HB.out.far (p := ⟨g6, k * 2 + 1, none⟩) (fun e => HNE.out (by rw [e]; rfl)) (.int .i64 (da : Int))
          clear ho5 HO4 HX4 HB HS2
          generalize W.setCell ⟨g6, k * 2 + 1, none⟩ (.int .i64 (da : Int)) = W5 at *
          have p1 : W5.cell? ⟨g, 1, none⟩ = some (.slice A2 n2 c2) := hb5.cell 1
          clear hb5
          go_wp2_with fail
          refine (HUP.out _).mono ?_
          rintro e w6 ⟨rfl, rfl⟩
          go_wp2_with fail
          go_roundw
          case rel => exact ⟨k + 1, by omega, by go_num, by rw [HNX.out], HO5.out, HX5.out⟩
          case measure => simp [intOf]; omega
        · obtain rfl : k = ps.length := by omega
          have HE := hide (dAt_all ps)
          have HO6 := hide (show wr.ownsRow w.heap.size spT 2 (.slice A6 ps.length c6) ps.length ((spotsL ps).flatMap spC) by rw [← sp2_all]; exact HO3.out)
          clear HO3
          generalize dAt ps ps.length = da at *
          go_wp2_with fail
          exact bodyPost_ret (v := .tuple #[.slice A6 ps.length c6, .int .i64 (da : Int), .int .i64 0]) (by simp [results, Try.results9, go_sem]) rfl ⟨A6, c6, by rw [HE.out], HO6.out, HX3.out⟩
end Go.Proofs.Ytljlniehbenefaa
