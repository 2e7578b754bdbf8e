/- The walk of StreamFront. -/
import Derived.Test.YtkfpmljlgpobjaaTurnsD
import Derived.Test.YtkfpmljlgpobjaaFrontP
import Derived.Test.YtkfpmljlgpobjaaResetW
import Derived.Test.YtkfpmljlgpobjaaPrefix
namespace Go.Proofs.Ytkfpmljlgpobjaa
open Go.RowKit
set_option linter.unusedVariables false

theorem begin_kept (a b : Int) : Kept (sayP (beginP a b)) 1000 1000 1000 := by
  have h : Kept (beginP a b) 0 0 0 := ⟨begin_sound a b, fun i hi => by simp [beginP]⟩
  have h2 := kept_say h
  exact ⟨h2.s.mono (by omega) (by omega), fun i hi => Nat.le_trans (h2.put i hi) (by omega)⟩
theorem PairAt.strs {w0 w : World} {gp : Nat} {b : Nat → Nat} {d : PairD} (h : PairAt w0 gp b d w) : w.cell? ⟨gp, 4, none⟩ = some (.string (str (d.p 0))) ∧ w.cell? ⟨gp, 5, none⟩ = some (.string (str (d.p 1))) ∧ w.cell? ⟨gp, 6, none⟩ = some (.string (str (d.g 0))) ∧ w.cell? ⟨gp, 7, none⟩ = some (.string (str (d.g 1))) := by
  obtain ⟨L, h, hb⟩ := h
  exact ⟨h.box.cell 4, h.box.cell 5, h.box.cell 6, h.box.cell 7⟩
theorem toT_write0 (d : PairD) (xs : List UInt8) : toT (writeI d 0 xs) = ⟨(writeE (d.e 0) xs).1, d.e 1, d.y 0, d.y 1, d.p 0 ++ xs.take (writeE (d.e 0) xs).2.1, d.p 1, d.g 0, d.g 1⟩ := by
  simp [toT, writeI, upd]
theorem write_full (X Y : Int) {ds : List UInt8} (h : ds.length ≤ 64) : (writeE (opn X Y false) ds).1 = full X Y ds ∧ (writeE (opn X Y false) ds).2.1 = ds.length := by
  have hn : wrN (opn X Y false) ds.length = ds.length := by unfold wrN opn; simp; omega
  unfold writeE
  rw [if_neg (by simp [opn]), if_neg (by simp [opn, begunB]), if_neg (by simp [opn])]
  refine ⟨?_, hn⟩
  unfold wrTo
  rw [hn]
  unfold opn full
  simp
theorem sound_of2 {d : PairD} {t : PairT} (h : toT d = t) (l0 : Live t.x0) (l1 : Live t.x1) {Y G : Nat} (y0 : t.y0.length ≤ Y) (y1 : t.y1.length ≤ Y) (g0 : t.g0.length ≤ G) (g1 : t.g1.length ≤ G) : Sound d Y G := by
  subst h
  refine ⟨fun i hi => ?_, fun i hi => ?_, fun i hi => ?_⟩ <;> rcases lt2 hi with rfl | rfl
  · exact l0
  · exact l1
  · exact y0
  · exact y1
  · exact g0
  · exact g1
theorem reads_one (w : World) (x : UInt8) (cap : Nat × Nat) : Reads (w.alloc (.cells #[.int .u8 (x.toNat : Int)] 5 cap)) (w.alloc (.cells #[.int .u8 (x.toNat : Int)] 5 cap)).heap.size 1 (some ⟨w.heap.size, 0, none⟩) 1 (bytesV [x]) := by
  refine ⟨rfl, fun _ => ⟨_, rfl, by simp, fun j u hu => ?_⟩⟩
  rw [add_lit, World.cell?_alloc_mark]
  simpa [bytesV] using hu
set_option maxHeartbeats 4000000 in
set_option maxRecDepth 100000 in
theorem front_walk (hT : TurnsSpec) (a b : Int) (ha : U32 a) (hb : U32 b) (A : Option Addr) (n c : Nat) (ls : List (TurnD × Value)) (w : World) (ht : TurnsIn w A n ls) :
    Calls Try.prog 8 #[.int .u32 a, .int .u32 b, .slice A n c] w fun r w' => r = .returned (.bool true) ∧ Ext w w' := by
  have HA := hide ha
  have HB := hide hb
  have HMET := hide (met_d ha hb)
  have HT := hide ht
  have HSP := hide hT
  have HFR := hide (front a b (ls.map (·.1)))
  have HK0 := hide (begin_kept a b)
  clear ha hb ht hT
  go_enter Try.func8, Try.ntmps8
  go_wp2_with fail
  refine (begin_any w a b HA.out HB.out).mono ?_
  rintro r w1 ⟨gp, bb, rfl, hp1⟩
  have HP1 := hide hp1
  clear hp1
  go_wp2_with fail
  refine (pair_say w gp bb (beginP a b) w1 HP1.out (fun i hi => by simp [beginP])).mono ?_
  rintro r w2 ⟨rfl, hp2⟩
  have HP2 := hide hp2
  clear hp2 HP1
  generalize sayP (beginP a b) = d0 at *
  go_wp2_with fail
  refine (HSP.out w gp bb d0 w2 A n c ls HP2.out HK0.out HT.out).mono ?_
  rintro r w3 ⟨rfl, hp3, hk3⟩
  have HP3 := hide hp3
  have HK3 := hide hk3
  clear hp3 hk3 HP2 HSP HK0
  generalize (turnsP d0 (ls.map (·.1))).1 = d3 at *
  go_wp2_with fail
  refine (pair_read0 w gp bb d3 w3 HP3.out (by have := HK3.out.s.got 0 (by omega); omega)).mono ?_
  rintro r w4 ⟨rfl, hp4⟩
  have HP4 := hide hp4
  have HG4 := hide (sound_readI HK3.out.s 0 (by omega))
  clear hp4 HP3
  generalize readI d3 0 = d4 at *
  go_wp2_with fail
  refine (pair_read1 w gp bb d4 w4 HP4.out (by have := HG4.out.got 1 (by omega); omega)).mono ?_
  rintro r w5 ⟨rfl, hp5⟩
  have HP5 := hide hp5
  clear hp5 HP4 HG4 HK3
  generalize readI d4 1 = d5 at *
  go_wp2_with fail
  refine (begin_any w5 a b HA.out HB.out).mono ?_
  rintro r w6 ⟨gq, bq, rfl, hp6⟩
  have HP6 := hide hp6
  clear hp6
  go_wp2_with fail
  refine (pair_rounds w5 gq bq (beginP a b) w6 4 HP6.out 0 0 (begin_sound a b) (by omega) (by omega) (by omega)).mono ?_
  rintro r w7 ⟨rfl, hp7⟩
  have HP7 := hide hp7
  clear hp7 HP6
  generalize roundsP 4 (beginP a b) = d7 at *
  have HX := hide (P1_u a)
  have HY := hide (P1_u b)
  have HM1 := hide (show toT d7 = ⟨opn (P1 a) (P1 b) false, opn (P1 b) (P1 a) false, [], [], [], [], [], []⟩ from HMET.out)
  generalize P1 a = X at *
  generalize P1 b = Y at *
  clear HMET HA HB
  have hcv := Lib.run_convert_bytes_const (P := Try.prog) w7 33 5 #[.int .u8 120] 1 1 Try.underlying33 Try.underlying5
  have HXB := hide ((Ext.refl w7).alloc (.cells #[.int .u8 120] 5 (1, 2)))
  have HRX := hide (reads_one w7 120 (1, 2))
  go_wp2_with fail
  obtain ⟨L, hL, hLb⟩ := HP7.out
  have HWR := hide (pair_write0 w5 gq bq d7 L (w7.alloc (.cells #[.int .u8 120] 5 (1, 2))) (hL.extend HXB.out) hLb (by rw [show d7.p 0 = [] from congrArg PairT.p0 HM1.out]; simp) (some ⟨w7.heap.size, 0, none⟩) 1 1 [120] _ (Nat.le_refl _) HRX.out (by omega) (by omega) (fun x hx hlt => by
    injection hx with hx
    subst hx
    refine ⟨fun e => ?_, fun j hj hf => ?_⟩
    · have h1 := hL.box.lt
      rw [← e] at h1
      exact absurd h1 (Nat.lt_irrefl _)
    · exact absurd ((hL.end_ j hj).lt hf) (Nat.lt_irrefl _)))
  have HX8 := hide (HP7.out.ext.trans HXB.out)
  clear hL hLb
  refine HWR.out.mono ?_
  rintro r w8 ⟨rfl, hp8⟩
  have HP8 := hide hp8
  have hxl : ([120] : List UInt8).length ≤ 64 := by simp
  have HM2 := hide (show toT (writeI d7 0 [120]) = ⟨full X Y [120], opn Y X false, [], [], [120], [], [], []⟩ by
    rw [toT_write0, show d7.e 0 = _ from congrArg PairT.x0 HM1.out, show d7.e 1 = _ from congrArg PairT.x1 HM1.out, show d7.y 0 = _ from congrArg PairT.y0 HM1.out, show d7.y 1 = _ from congrArg PairT.y1 HM1.out, show d7.p 0 = _ from congrArg PairT.p0 HM1.out, show d7.p 1 = _ from congrArg PairT.p1 HM1.out, show d7.g 0 = _ from congrArg PairT.g0 HM1.out, show d7.g 1 = _ from congrArg PairT.g1 HM1.out]
    dsimp only
    rw [(write_full X Y hxl).1, (write_full X Y hxl).2]
    rfl)
  have HP5' := hide (HP5.out.later HX8.out)
  have HP5'' := hide (HP5.out.later HP8.out.ext)
  clear hp8 HP7 HM1 HWR hcv hxl HXB HRX HX8
  generalize writeI d7 0 [120] = d8 at *
  go_wp2_with fail
  refine (pair_rounds w5 gq bq d8 w8 3 HP8.out 0 0 (sound_of2 HM2.out (fun _ => by simp [full]) (fun _ => by simp [opn]) (by simp) (by simp) (by simp) (by simp)) (by omega) (by omega) (by omega)).mono ?_
  rintro r w9 ⟨rfl, hp9⟩
  have HP9 := hide (HP5.out.later hp9.ext)
  have HM3 := hide (show toT (roundsP 3 d8) = _ by rw [toT_rounds, HM2.out, one_said HX.out HY.out [120] (by simp)])
  have hq9 := hp9.strs.2.2.2
  rw [show (roundsP 3 d8).g 1 = [120] from congrArg PairT.g1 HM3.out] at hq9
  have k1 : w9.cell? ⟨gq, 7, none⟩ = some (.string ⟨#[120]⟩) := hq9
  obtain ⟨s4, s5, s6, s7⟩ := HP9.out.strs
  obtain ⟨xs, ys, hpx, hpy, hpl⟩ := HFR.out
  have l0 := hpl 0 (by omega)
  have l1 := hpl 1 (by omega)
  rw [hpx] at l0 s4
  rw [hpy] at l1 s5
  rw [List.length_append] at l0 l1
  have HQ0 := hide (fun W : World => prefix_true (d5.g 1) xs W (by omega))
  have HQ1 := hide (fun W : World => prefix_true (d5.g 0) ys W (by omega))
  have HXW := hide HP9.out.ext
  clear hp9 HP8 HM2 HM3 hq9 HFR hpx hpy hpl l0 l1 HP5 HP5' HP5'' HX HY HP9 HT
  generalize str (d5.g 1 ++ xs) = S1 at *
  generalize str (d5.g 0 ++ ys) = S0 at *
  generalize str (d5.g 1) = T1 at *
  generalize str (d5.g 0) = T0 at *
  go_upto_region 11 with fail
  go_quiet ((go_at_call 25; first | (with_reducible exact quiet_eq (HQ0.out _)) | (with_reducible exact quiet_eq (HQ1.out _))))
  go_wp2_with fail
  go_ret
  exact ⟨rfl, HXW.out.drewN _⟩
end Go.Proofs.Ytkfpmljlgpobjaa
