/- The contract of (*pair).turns. -/
import Derived.Test.YtkfpmljlgpobjaaTurnsD
import Derived.Test.YtkfpmljlgpobjaaResetW
import Derived.Test.YtkfpmljlgpobjaaRest
import Derived.Test.YtkfpmljlgpobjaaPop
import Derived.Outline
import Derived.Deep.CutBlock
import Derived.Great.BuildSlice
namespace Go.Proofs.Ytkfpmljlgpobjaa
open Go.RowKit
set_option linter.unusedVariables false

def stepsP (d : PairD) (ls : List (TurnD × Value)) (k : Nat) : PairD × Nat := ((ls.map (·.1)).take k).foldl turnP (d, 0)
def TurnsRel (w0 : World) (gp : Nat) (b : Nat → Nat) (d : PairD) (ls : List (TurnD × Value)) (n : Nat) (gk : Nat) (v5 v14 : Value) (wr : World) : Prop :=
  ∃ k : Nat, k ≤ n ∧ k ≤ 40 ∧ gk + k = n ∧ v14 = .int .i64 k ∧ v5 = .int .i64 (stepsP d ls k).2 ∧ (stepsP d ls k).2 ≤ k ∧ PairAt w0 gp b (stepsP d ls k).1 wr ∧ Kept (stepsP d ls k).1 (1000 + 200 * k) (1000 + 64 * k) (1000 + 40 * k)
def TurnMid (w0 : World) (gp : Nat) (b : Nat → Nat) (d : PairD) (tk : Nat) (t : TurnD) (v5 : Value) (wc : World) : Prop := v5 = .int .i64 ((turnI d tk t).2 : Nat) ∧ PairAt w0 gp b (turnI d tk t).1 wc
/-- A slice of one segment, built in a drawn region. -/
theorem step_buildSeg {ops : Array Oper} {o : Oper} {a : Act} {K : Act → World → Prop} {Q : Exit → Act → World → Prop} {E : Prop} {w : World} (hgd : o.guard = none) (x : Operand) (ho : o.op = .buildSlice 27 1 #[(0, x)])
    (sq sa sf sw : Int) (A : Option Addr) (n c : Nat) (hx : a.eval x = .agg #[.int .u32 sq, .int .u32 sa, .int .i64 sf, .int .i64 sw, .slice A n c])
    (h : K (a.put o.dst (.slice (some ⟨w.heap.size, 0, none⟩) 1 1)) (w.alloc (.cells #[.int .u32 sq, .int .u32 sa, .int .i64 sf, .int .i64 sw, .slice A n c] 49))) :
    if Region.wanted o (yielded ops a.tmps) = true then Oper.wp Try.prog o a w K Q else E := by
  have hw : Region.wanted o (yielded ops a.tmps) = true := by simp [Region.wanted, hgd]
  rw [if_pos hw]
  obtain ⟨i0, hi0, hz0, hz1, hz2⟩ := info_parts seg_info
  refine wp_buildSlice 27 49 1 #[(0, x)] ho _ i0 _ Try.underlying27 hi0 hz0 (by omega) (by omega) ?_ h
  rw [hz1]
  rw [show (#[(0, x)] : Array (Nat × Operand)).map (fun (i, x) => (i, a.eval x)) = #[(0, a.eval x)] from by simp, hx]
  kernel_rfl
set_option maxHeartbeats 20000000 in
set_option maxRecDepth 100000 in
theorem pair_turns (w0 : World) (gp : Nat) (b : Nat → Nat) (d : PairD) (w : World) (A : Option Addr) (n c : Nat) (ls : List (TurnD × Value)) (h : PairAt w0 gp b d w) (hs : Kept d 1000 1000 1000) (ht : TurnsIn w0 A n ls) :
    Calls Try.prog 23 #[.pointer (some ⟨gp, 0, none⟩), .slice A n c] w fun r w' => r = .returned (.bool true) ∧ PairAt w0 gp b (turnsP d (ls.map (·.1))).1 w' ∧ Kept (turnsP d (ls.map (·.1))).1 10000 10000 10000 := by
  obtain ⟨i0, hi0, hz0, hz1, hz2⟩ := info_parts seg_info
  have HP := hide h
  have HS := hide hs
  have HT := hide ht
  have hnm := ht.len
  unfold maxLen at hnm
  have HLL := hide (flat_len turnC_len (by omega) ht.row)
  clear h hs ht
  go_enter Try.func23, Try.ntmps23
  go_wp2_with fail
  go_loopg [5, 14] n (TurnsRel w0 gp b d ls n)
  case atStart => exact ⟨0, Nat.zero_le _, Nat.zero_le _, rfl, rfl, rfl, Nat.le_refl _, HP.out, HS.out⟩
  case round =>
    obtain ⟨k, hk, hk40, hgk, rfl, rfl, htk, hp, hkp⟩ := hrel
    clear HP HS
    obtain ⟨tk, htk'⟩ : ∃ x, (stepsP d ls k).2 = x := ⟨_, rfl⟩
    rw [htk'] at htk ⊢
    have HTK := hide htk'
    have HP := hide hp
    have HS := hide hkp
    have HGK := hide hgk
    clear htk' hp hkp hgk
    by_cases hlt : k < n
    · obtain ⟨bl, off, rfl, hbl⟩ := HT.out.row.addr (by omega) (by omega)
      have hkl : k < ls.length := by rw [HLL.out]; exact hlt
      have hxr := HP.out.ext.reads HT.out.row (Nat.le_refl _)
      have r0 := Reads.elem turnC_len hxr k hkl (by omega) 0 (by omega) (u := .int .i64 ls[k].1.kind) rfl
      have r1 := Reads.elem turnC_len hxr k hkl (by omega) 1 (by omega) (u := .int .i64 ls[k].1.n) rfl
      have r2 := Reads.elem turnC_len hxr k hkl (by omega) 2 (by omega) (u := ls[k].2) rfl
      obtain ⟨hk1, hk2, Ax, nx, cx, hxv, hnc, hcm, hrx⟩ := HT.out.each _ (List.getElem_mem hkl)
      have hstep : stepsP d ls (k + 1) = turnP (stepsP d ls k) ls[k].1 := by
        unfold stepsP
        rw [List.take_succ_eq_append_getElem (by simpa using hkl), List.foldl_append, List.getElem_map]
        rfl
      obtain ⟨x, hx⟩ : ∃ x, ls[k] = x := ⟨_, rfl⟩
      rw [hx] at r0 r1 r2 hk1 hk2 hxv hrx hstep
      obtain ⟨⟨tkind, tn, tdata⟩, tv⟩ := x
      dsimp only at r0 r1 r2 hk1 hk2 hxv hrx hstep
      subst hxv
      have z0 : wr.cell? ⟨bl, off + k * 3, none⟩ = some (.int .i64 tkind) := by simpa using r0
      have HST := hide hstep
      have HRX := hide hrx
      have HCM := hide hcm
      clear r0 hx hxr hstep hrx hcm hkl
      by_cases h40 : k = 40
      · subst h40
        go_wp2_with fail
        go_ret
        refine ⟨rfl, ?_⟩
        have : turnsP d (ls.map (·.1)) = stepsP d ls 40 := rfl
        rw [this]
        exact ⟨HP.out.later ((Ext.refl wr).alloc _), ⟨HS.out.s.mono (by omega) (by omega), fun i hi => by have := HS.out.put i hi; omega⟩⟩
      · have hk39 : k < 40 := by omega
        have hkI : ¬ ((40 : Int) ≤ (k : Int)) := by omega
        go_upto_region 6 with fail
        have HXA := hide ((Ext.refl wr).alloc (.cells #[.int .i64 tkind, .int .i64 tn, .slice Ax nx cx] 67))
        have HBX := hide (Blk.new wr 67 #[.int .i64 tkind, .int .i64 tn, .slice Ax nx cx])
        have HP2 := hide (HP.out.later HXA.out)
        generalize wr.alloc (.cells #[.int .i64 tkind, .int .i64 tn, .slice Ax nx cx] 67) = W at *
        obtain ⟨gt, hgt⟩ : ∃ x, wr.heap.size = x := ⟨_, rfl⟩
        rw [hgt] at HBX ⊢
        clear hgt r1 r2 z0 HP
        have b0 : W.cell? ⟨gt, 0, none⟩ = some (.int .i64 tkind) := HBX.out.cell 0
        have b1 : W.cell? ⟨gt, 1, none⟩ = some (.int .i64 tn) := HBX.out.cell 1
        have b2 : W.cell? ⟨gt, 2, none⟩ = some (.slice Ax nx cx) := HBX.out.cell 2
        obtain ⟨d1, hd1⟩ : ∃ x, (stepsP d ls k).1 = x := ⟨_, rfl⟩
        rw [hd1] at HP2 HS
        have HD1 := hide hd1
        have e2 := restZ_lo tn 2 (by omega)
        have e3 := restZ_hi tn 2 (by omega)
        have e8 := restZ_lo tkind 8 (by omega)
        have e9 := restZ_hi tkind 8 (by omega)
        have HEN := hide (show endOf ⟨tkind, tn, tdata⟩ = (restZ tn 2).toNat from rfl)
        have HTU := hide (show turnI d1 tk ⟨tkind, tn, tdata⟩ = _ from rfl)
        have HR2 := hide (rest_any tn 2 W hk2.1 hk2.2 (by omega) (by omega))
        have HR8 := hide (rest_any tkind 8 W hk1.1 hk1.2 (by omega) (by omega))
        obtain ⟨z8, hz8⟩ : ∃ x, restZ tn 2 = x := ⟨_, rfl⟩
        obtain ⟨z26, hz26⟩ : ∃ x, restZ tkind 8 = x := ⟨_, rfl⟩
        rw [hz8] at e2 e3 HR2 HEN
        rw [hz26] at e8 e9 HR8
        have HZ8 := hide hz8
        have HZ26 := hide hz26
        clear hd1 hz8 hz26
        go_wp2_with fail
        refine HR2.out.mono ?_
        rintro r w2 ⟨rfl, rfl⟩
        go_wp2_with fail
        refine HR8.out.mono ?_
        rintro r w2 ⟨rfl, rfl⟩
        go_upto_block 2 with fail
        go_cut [5] (TurnMid w0 gp b d1 tk ⟨tkind, tn, tdata⟩)
        case first =>
          have h26 : z26 = 0 ∨ z26 = 1 ∨ z26 = 2 ∨ z26 = 3 ∨ z26 = 4 ∨ z26 = 5 ∨ z26 = 6 ∨ z26 = 7 := by omega
          have h8 : z8 = 0 ∨ z8 = 1 := by omega
          clear HTU HST HR2 HR8 e2 e3 e8 e9 HTK HD1
          rcases h26 with rfl | rfl | rfl | rfl | rfl | rfl | rfl | rfl
          · rcases h8 with rfl | rfl
            · as_aux_lemma =>
                have HTV := hide (show turnI d1 tk ⟨tkind, tn, tdata⟩ = (writeI d1 0 (tdata.take 40), tk) by unfold turnI endOf; dsimp only; rw [HZ26.out, HZ8.out, if_pos (by omega)]; rfl)
                have htl : tdata.length = nx := by have := HRX.out.1; rw [bytesV_length] at this; omega
                obtain ⟨m, hm⟩ : ∃ x, min nx 40 = x := ⟨_, rfl⟩
                have hm40 : m ≤ 40 := by omega
                have hmx : m ≤ nx := by omega
                have htm : tdata.take m = tdata.take 40 := by
                  by_cases h : nx ≤ 40
                  · rw [List.take_of_length_le (by omega), List.take_of_length_le (by omega)]
                  · rw [show m = 40 by omega]
                have HRM := hide (show Reads W w0.heap.size 1 Ax m (bytesV (tdata.take 40)) by rw [← htm, ← bytesV_take]; exact (HP2.out.ext.reads HRX.out (Nat.le_refl _)).take hmx)
                have HCUT := hide (show Calls Try.prog 18 #[.slice Ax nx cx, .int .i64 40] W (fun e w' => e = .returned (.slice Ax m cx) ∧ W = w') from by rw [← hm]; exact cut_any Ax nx cx 40 W hnc HCM.out (by omega))
                have HPL := hide (HS.out.put 0 (by omega))
                clear hm htm htl
                go_wp2_with fail
                refine HCUT.out.mono ?_
                rintro r w3 ⟨rfl, rfl⟩
                go_wp2_with fail
                refine (pair_writeA w0 gp b d1 W HP2.out (by have := HPL.out; omega) Ax m cx (tdata.take 40) HRM.out (by omega) (by omega)).mono ?_
                rintro r w3 ⟨rfl, hp3⟩
                have HP3 := hide hp3
                clear hp3
                go_wp2_with fail
                go_meet
                exact ⟨by rw [HTV.out], by rw [HTV.out]; exact HP3.out⟩
            · as_aux_lemma =>
                have HTV := hide (show turnI d1 tk ⟨tkind, tn, tdata⟩ = (writeI d1 1 (tdata.take 40), tk) by unfold turnI endOf; dsimp only; rw [HZ26.out, HZ8.out, if_pos (by omega)]; rfl)
                have htl : tdata.length = nx := by have := HRX.out.1; rw [bytesV_length] at this; omega
                obtain ⟨m, hm⟩ : ∃ x, min nx 40 = x := ⟨_, rfl⟩
                have hm40 : m ≤ 40 := by omega
                have hmx : m ≤ nx := by omega
                have htm : tdata.take m = tdata.take 40 := by
                  by_cases h : nx ≤ 40
                  · rw [List.take_of_length_le (by omega), List.take_of_length_le (by omega)]
                  · rw [show m = 40 by omega]
                have HRM := hide (show Reads W w0.heap.size 1 Ax m (bytesV (tdata.take 40)) by rw [← htm, ← bytesV_take]; exact (HP2.out.ext.reads HRX.out (Nat.le_refl _)).take hmx)
                have HCUT := hide (show Calls Try.prog 18 #[.slice Ax nx cx, .int .i64 40] W (fun e w' => e = .returned (.slice Ax m cx) ∧ W = w') from by rw [← hm]; exact cut_any Ax nx cx 40 W hnc HCM.out (by omega))
                have HPL := hide (HS.out.put 1 (by omega))
                clear hm htm htl
                go_wp2_with fail
                refine HCUT.out.mono ?_
                rintro r w3 ⟨rfl, rfl⟩
                go_wp2_with fail
                refine (pair_writeB w0 gp b d1 W HP2.out (by have := HPL.out; omega) Ax m cx (tdata.take 40) HRM.out (by omega) (by omega)).mono ?_
                rintro r w3 ⟨rfl, hp3⟩
                have HP3 := hide hp3
                clear hp3
                go_wp2_with fail
                go_meet
                exact ⟨by rw [HTV.out], by rw [HTV.out]; exact HP3.out⟩
          · rcases h8 with rfl | rfl
            · as_aux_lemma =>
                have HTV := hide (show turnI d1 tk ⟨tkind, tn, tdata⟩ = (writeI d1 0 (tdata.take 40), tk) by unfold turnI endOf; dsimp only; rw [HZ26.out, HZ8.out, if_pos (by omega)]; rfl)
                have htl : tdata.length = nx := by have := HRX.out.1; rw [bytesV_length] at this; omega
                obtain ⟨m, hm⟩ : ∃ x, min nx 40 = x := ⟨_, rfl⟩
                have hm40 : m ≤ 40 := by omega
                have hmx : m ≤ nx := by omega
                have htm : tdata.take m = tdata.take 40 := by
                  by_cases h : nx ≤ 40
                  · rw [List.take_of_length_le (by omega), List.take_of_length_le (by omega)]
                  · rw [show m = 40 by omega]
                have HRM := hide (show Reads W w0.heap.size 1 Ax m (bytesV (tdata.take 40)) by rw [← htm, ← bytesV_take]; exact (HP2.out.ext.reads HRX.out (Nat.le_refl _)).take hmx)
                have HCUT := hide (show Calls Try.prog 18 #[.slice Ax nx cx, .int .i64 40] W (fun e w' => e = .returned (.slice Ax m cx) ∧ W = w') from by rw [← hm]; exact cut_any Ax nx cx 40 W hnc HCM.out (by omega))
                have HPL := hide (HS.out.put 0 (by omega))
                clear hm htm htl
                go_wp2_with fail
                refine HCUT.out.mono ?_
                rintro r w3 ⟨rfl, rfl⟩
                go_wp2_with fail
                refine (pair_writeA w0 gp b d1 W HP2.out (by have := HPL.out; omega) Ax m cx (tdata.take 40) HRM.out (by omega) (by omega)).mono ?_
                rintro r w3 ⟨rfl, hp3⟩
                have HP3 := hide hp3
                clear hp3
                go_wp2_with fail
                go_meet
                exact ⟨by rw [HTV.out], by rw [HTV.out]; exact HP3.out⟩
            · as_aux_lemma =>
                have HTV := hide (show turnI d1 tk ⟨tkind, tn, tdata⟩ = (writeI d1 1 (tdata.take 40), tk) by unfold turnI endOf; dsimp only; rw [HZ26.out, HZ8.out, if_pos (by omega)]; rfl)
                have htl : tdata.length = nx := by have := HRX.out.1; rw [bytesV_length] at this; omega
                obtain ⟨m, hm⟩ : ∃ x, min nx 40 = x := ⟨_, rfl⟩
                have hm40 : m ≤ 40 := by omega
                have hmx : m ≤ nx := by omega
                have htm : tdata.take m = tdata.take 40 := by
                  by_cases h : nx ≤ 40
                  · rw [List.take_of_length_le (by omega), List.take_of_length_le (by omega)]
                  · rw [show m = 40 by omega]
                have HRM := hide (show Reads W w0.heap.size 1 Ax m (bytesV (tdata.take 40)) by rw [← htm, ← bytesV_take]; exact (HP2.out.ext.reads HRX.out (Nat.le_refl _)).take hmx)
                have HCUT := hide (show Calls Try.prog 18 #[.slice Ax nx cx, .int .i64 40] W (fun e w' => e = .returned (.slice Ax m cx) ∧ W = w') from by rw [← hm]; exact cut_any Ax nx cx 40 W hnc HCM.out (by omega))
                have HPL := hide (HS.out.put 1 (by omega))
                clear hm htm htl
                go_wp2_with fail
                refine HCUT.out.mono ?_
                rintro r w3 ⟨rfl, rfl⟩
                go_wp2_with fail
                refine (pair_writeB w0 gp b d1 W HP2.out (by have := HPL.out; omega) Ax m cx (tdata.take 40) HRM.out (by omega) (by omega)).mono ?_
                rintro r w3 ⟨rfl, hp3⟩
                have HP3 := hide hp3
                clear hp3
                go_wp2_with fail
                go_meet
                exact ⟨by rw [HTV.out], by rw [HTV.out]; exact HP3.out⟩
          · rcases h8 with rfl | rfl
            · as_aux_lemma =>
                have HTV := hide (show turnI d1 tk ⟨tkind, tn, tdata⟩ = (readI d1 0, tk) by unfold turnI endOf; dsimp only; rw [HZ26.out, HZ8.out, if_neg (by omega), if_pos (by omega)]; rfl)
                have HGL := hide (HS.out.s.got 0 (by omega))
                go_wp2_with fail
                refine (pair_read0 w0 gp b d1 W HP2.out (by have := HGL.out; omega)).mono ?_
                rintro r w3 ⟨rfl, hp3⟩
                have HP3 := hide hp3
                clear hp3
                go_wp2_with fail
                go_meet
                exact ⟨by rw [HTV.out], by rw [HTV.out]; exact HP3.out⟩
            · as_aux_lemma =>
                have HTV := hide (show turnI d1 tk ⟨tkind, tn, tdata⟩ = (readI d1 1, tk) by unfold turnI endOf; dsimp only; rw [HZ26.out, HZ8.out, if_neg (by omega), if_pos (by omega)]; rfl)
                have HGL := hide (HS.out.s.got 1 (by omega))
                go_wp2_with fail
                refine (pair_read1 w0 gp b d1 W HP2.out (by have := HGL.out; omega)).mono ?_
                rintro r w3 ⟨rfl, hp3⟩
                have HP3 := hide hp3
                clear hp3
                go_wp2_with fail
                go_meet
                exact ⟨by rw [HTV.out], by rw [HTV.out]; exact HP3.out⟩
          · rcases h8 with rfl | rfl
            · as_aux_lemma =>
                have HTV := hide (show turnI d1 tk ⟨tkind, tn, tdata⟩ = (if 0 < (d1.y 0).length then dropI d1 0 (pickN tn (d1.y 0).length) else d1, tk) by unfold turnI endOf; dsimp only; rw [HZ26.out, HZ8.out, if_neg (by omega), if_neg (by omega), if_pos (by omega)]; rfl)
                obtain ⟨L, hL, hLb⟩ := HP2.out
                have HL := hide hL
                have HLB := hide hLb
                have hway := hL.way 0 (by omega)
                obtain ⟨Ay, cy, hvy, hny, hcy, hnil⟩ := own_form hway
                have hyl : (d1.y 0).length ≤ 10000 := by have := HS.out.s.way 0 (by omega); omega
                have y0 : W.cell? ⟨gp, 2, none⟩ = some (.slice Ay (d1.y 0).length cy) := by rw [← hvy]; exact hL.box.cell 2
                have yf : W.frozen? ⟨gp, 2, none⟩ = false := hL.box.frozen 2
                have hll : (L.ls 0).length = (d1.y 0).length := by rw [← hL.segs 0 (by omega), List.length_map]
                rw [hvy] at hway
                obtain ⟨ny, hyn⟩ : ∃ x, (d1.y 0).length = x := ⟨_, rfl⟩
                rw [hyn] at y0 hny hyl hway hll
                have HVY := hide (show L.vy 0 = .slice Ay ny cy by rw [hvy, hyn])
                have HYN := hide hyn
                have HWAY := hide hway
                have HLL := hide hll
                have HNIL := hide hnil
                unfold maxLen at hcy
                clear hL hLb hvy hyn hll hnil
                by_cases hn0 : 0 < ny
                · have hdr := restZ_lo (tn.tdiv 2) ny (by omega)
                  have hdr2 := restZ_hi (tn.tdiv 2) ny (by omega)
                  obtain ⟨kk, hkk⟩ : ∃ x : Nat, restZ (tn.tdiv 2) ny = x := ⟨(restZ (tn.tdiv 2) ny).toNat, by omega⟩
                  have hkn : kk < ny := by omega
                  have HPK := hide (show pickN tn ny = kk by unfold pickN; rw [hkk]; rfl)
                  obtain ⟨q, hq⟩ : ∃ x, tn.tdiv 2 = x := ⟨_, rfl⟩
                  have hqb : -9223372036854775808 ≤ q ∧ q ≤ 9223372036854775807 := by
                    rw [← hq]
                    have h1 := hk2.1
                    have h2 := hk2.2
                    have e1 := Int.tdiv_eq_ediv (a := tn) (b := 2)
                    rw [e1, show Int.sign 2 = 1 from rfl]
                    split <;> omega
                  rw [hq] at hkk
                  have HRK := hide (fun dd => show Calls Try.prog 35 #[.int .i64 q, .int .i64 ny] (W.drewN dd) (fun e w' => e = .returned (.int .i64 (kk : Int)) ∧ W.drewN dd = w') from by rw [← hkk]; exact rest_any q ny _ hqb.1 hqb.2 (by omega) (by omega))
                  have hqw : IntKind.i64.wrap q = q := by rw [IntKind.wrap_i64]; omega
                  clear hdr hdr2 hkk hqb
                  have HTV2 := hide (show turnI d1 tk ⟨tkind, tn, tdata⟩ = (dropI d1 0 kk, tk) by rw [HTV.out, HYN.out, if_pos hn0, HPK.out])
                  obtain ⟨gy, hgy, -⟩ := own_addr HWAY.out hn0
                  subst hgy
                  go_upto_region 20 with fail
                  go_quiet ((go_at_call 35; exact quiet_eq (HRK.out _)))
                  go_upto_region 21 with fail
                  have HXQ := hide ((Ext.refl W).drewN nq)
                  have HM2 := hide (HL.out.extend HXQ.out)
                  have HW2 := hide (HXQ.out.own HWAY.out)
                  have Y0 := HXQ.out.cell y0
                  have YF := (HXQ.out.frozen y0).trans yf
                  generalize W.drewN nq = W2 at *
                  clear y0 yf b0 b1 b2 HRK
                  have hkw : IntKind.i64.wrap ((kk : Int) + 1) = (kk : Int) + 1 := by rw [IntKind.wrap_i64]; omega
                  rw [← opDel3_eq]
                  have hOp := opDel3_eq
                  go_region_held3 (fun _ => True) (trivial)
                    (first | (go_at_call 36; refine (delete_seg w0.heap.size gy ny cy kk (L.ls 0) _ (Ext.own (w := W2) (by ((repeat (first | with_reducible exact Ext.refl _ | with_reducible assumption | with_reducible refine Ext.alloc ?_ _ | with_reducible refine Ext.drew ?_ | with_reducible refine Ext.drewN ?_ _ | with_reducible refine Ext.setCell ?_ (by first | exact Nat.le_refl _ | assumption | (simp; done) | omega) _ | with_reducible refine Ext.trans ?_ (by with_reducible assumption))); done)) HW2.out) (segs_one (HM2.out.data 0 (by omega))) hkn).mono ?_; rintro r w7 ⟨rfl, ho7, hg7⟩; have n5 : w7.cell? ⟨gp, 2, none⟩ = some (.slice (some ⟨gy, 0, none⟩) ny cy) := hg7.cell (Ext.cell (w := W2) (by ((repeat (first | with_reducible exact Ext.refl _ | with_reducible assumption | with_reducible refine Ext.alloc ?_ _ | with_reducible refine Ext.drew ?_ | with_reducible refine Ext.drewN ?_ _ | with_reducible refine Ext.setCell ?_ (by first | exact Nat.le_refl _ | assumption | (simp; done) | omega) _ | with_reducible refine Ext.trans ?_ (by with_reducible assumption))); done)) Y0) (fun e => own_blk_ne HW2.out HM2.out.box (by decide) e.symm); have nf : w7.frozen? ⟨gp, 2, none⟩ = false := (Blk.grown (Blk.ext HM2.out.box (by ((repeat (first | with_reducible exact Ext.refl _ | with_reducible assumption | with_reducible refine Ext.alloc ?_ _ | with_reducible refine Ext.drew ?_ | with_reducible refine Ext.drewN ?_ _ | with_reducible refine Ext.setCell ?_ (by first | exact Nat.le_refl _ | assumption | (simp; done) | omega) _ | with_reducible refine Ext.trans ?_ (by with_reducible assumption))); done))) hg7 (fun e => own_blk_ne HW2.out HM2.out.box (by decide) e.symm)).frozen 2) | fail)
                  all_goals
                    obtain ⟨L8, hM8, hb8, hvo8, hvi8⟩ := HM2.out.deleted (j := 0) (by omega) HVY.out HYN.out hkn (by ((repeat (first | with_reducible exact Ext.refl _ | with_reducible assumption | with_reducible refine Ext.alloc ?_ _ | with_reducible refine Ext.drew ?_ | with_reducible refine Ext.drewN ?_ _ | with_reducible refine Ext.setCell ?_ (by first | exact Nat.le_refl _ | assumption | (simp; done) | omega) _ | with_reducible refine Ext.trans ?_ (by with_reducible assumption))); done)) ho7 hg7
                    have HFIN := hide (show PairAt w0 gp b (dropI d1 0 kk) (w7.setCell ⟨gp, 2, none⟩ (.slice (some ⟨gy, 0, none⟩) (ny - 1) cy)) from ⟨L8, hM8, by rw [hb8]; exact HLB.out⟩)
                    have HM8 := hide hM8
                    have HB8 := hide hb8
                    have HVO8 := hide hvo8
                    have HVI8 := hide hvi8
                    have HG7 := hide (grown_trans' (grown_of_ext (by ((repeat (first | with_reducible exact Ext.refl _ | with_reducible assumption | with_reducible refine Ext.alloc ?_ _ | with_reducible refine Ext.drew ?_ | with_reducible refine Ext.drewN ?_ _ | with_reducible refine Ext.setCell ?_ (by first | exact Nat.le_refl _ | assumption | (simp; done) | omega) _ | with_reducible refine Ext.trans ?_ (by with_reducible assumption))); done)) _) hg7 : World.grownBy W2 w7 (some gy))
                    clear ho7 hg7 hM8 hb8 hvo8 hvi8
                    go_wp2_with fail
                    go_meet
                    exact ⟨by rw [HTV2.out], by rw [HTV2.out]; exact HFIN.out⟩
                · obtain rfl : ny = 0 := by omega
                  have HTV2 := hide (show turnI d1 tk ⟨tkind, tn, tdata⟩ = (d1, tk) by rw [HTV.out, HYN.out, if_neg (by omega)])
                  go_wp2_with fail
                  go_meet
                  exact ⟨by rw [HTV2.out], by rw [HTV2.out]; exact ⟨L, HL.out, HLB.out⟩⟩
            · as_aux_lemma =>
                have HTV := hide (show turnI d1 tk ⟨tkind, tn, tdata⟩ = (if 0 < (d1.y 1).length then dropI d1 1 (pickN tn (d1.y 1).length) else d1, tk) by unfold turnI endOf; dsimp only; rw [HZ26.out, HZ8.out, if_neg (by omega), if_neg (by omega), if_pos (by omega)]; rfl)
                obtain ⟨L, hL, hLb⟩ := HP2.out
                have HL := hide hL
                have HLB := hide hLb
                have hway := hL.way 1 (by omega)
                obtain ⟨Ay, cy, hvy, hny, hcy, hnil⟩ := own_form hway
                have hyl : (d1.y 1).length ≤ 10000 := by have := HS.out.s.way 1 (by omega); omega
                have y0 : W.cell? ⟨gp, 3, none⟩ = some (.slice Ay (d1.y 1).length cy) := by rw [← hvy]; exact hL.box.cell 3
                have yf : W.frozen? ⟨gp, 3, none⟩ = false := hL.box.frozen 3
                have hll : (L.ls 1).length = (d1.y 1).length := by rw [← hL.segs 1 (by omega), List.length_map]
                rw [hvy] at hway
                obtain ⟨ny, hyn⟩ : ∃ x, (d1.y 1).length = x := ⟨_, rfl⟩
                rw [hyn] at y0 hny hyl hway hll
                have HVY := hide (show L.vy 1 = .slice Ay ny cy by rw [hvy, hyn])
                have HYN := hide hyn
                have HWAY := hide hway
                have HLL := hide hll
                have HNIL := hide hnil
                unfold maxLen at hcy
                clear hL hLb hvy hyn hll hnil
                by_cases hn0 : 0 < ny
                · have hdr := restZ_lo (tn.tdiv 2) ny (by omega)
                  have hdr2 := restZ_hi (tn.tdiv 2) ny (by omega)
                  obtain ⟨kk, hkk⟩ : ∃ x : Nat, restZ (tn.tdiv 2) ny = x := ⟨(restZ (tn.tdiv 2) ny).toNat, by omega⟩
                  have hkn : kk < ny := by omega
                  have HPK := hide (show pickN tn ny = kk by unfold pickN; rw [hkk]; rfl)
                  obtain ⟨q, hq⟩ : ∃ x, tn.tdiv 2 = x := ⟨_, rfl⟩
                  have hqb : -9223372036854775808 ≤ q ∧ q ≤ 9223372036854775807 := by
                    rw [← hq]
                    have h1 := hk2.1
                    have h2 := hk2.2
                    have e1 := Int.tdiv_eq_ediv (a := tn) (b := 2)
                    rw [e1, show Int.sign 2 = 1 from rfl]
                    split <;> omega
                  rw [hq] at hkk
                  have HRK := hide (fun dd => show Calls Try.prog 35 #[.int .i64 q, .int .i64 ny] (W.drewN dd) (fun e w' => e = .returned (.int .i64 (kk : Int)) ∧ W.drewN dd = w') from by rw [← hkk]; exact rest_any q ny _ hqb.1 hqb.2 (by omega) (by omega))
                  have hqw : IntKind.i64.wrap q = q := by rw [IntKind.wrap_i64]; omega
                  clear hdr hdr2 hkk hqb
                  have HTV2 := hide (show turnI d1 tk ⟨tkind, tn, tdata⟩ = (dropI d1 1 kk, tk) by rw [HTV.out, HYN.out, if_pos hn0, HPK.out])
                  obtain ⟨gy, hgy, -⟩ := own_addr HWAY.out hn0
                  subst hgy
                  go_upto_region 20 with fail
                  go_quiet ((go_at_call 35; exact quiet_eq (HRK.out _)))
                  go_upto_region 21 with fail
                  have HXQ := hide ((Ext.refl W).drewN nq)
                  have HM2 := hide (HL.out.extend HXQ.out)
                  have HW2 := hide (HXQ.out.own HWAY.out)
                  have Y0 := HXQ.out.cell y0
                  have YF := (HXQ.out.frozen y0).trans yf
                  generalize W.drewN nq = W2 at *
                  clear y0 yf b0 b1 b2 HRK
                  have hkw : IntKind.i64.wrap ((kk : Int) + 1) = (kk : Int) + 1 := by rw [IntKind.wrap_i64]; omega
                  rw [← opDel3_eq]
                  have hOp := opDel3_eq
                  go_region_held3 (fun _ => True) (trivial)
                    (first | (go_at_call 36; refine (delete_seg w0.heap.size gy ny cy kk (L.ls 1) _ (Ext.own (w := W2) (by ((repeat (first | with_reducible exact Ext.refl _ | with_reducible assumption | with_reducible refine Ext.alloc ?_ _ | with_reducible refine Ext.drew ?_ | with_reducible refine Ext.drewN ?_ _ | with_reducible refine Ext.setCell ?_ (by first | exact Nat.le_refl _ | assumption | (simp; done) | omega) _ | with_reducible refine Ext.trans ?_ (by with_reducible assumption))); done)) HW2.out) (segs_one (HM2.out.data 1 (by omega))) hkn).mono ?_; rintro r w7 ⟨rfl, ho7, hg7⟩; have n5 : w7.cell? ⟨gp, 3, none⟩ = some (.slice (some ⟨gy, 0, none⟩) ny cy) := hg7.cell (Ext.cell (w := W2) (by ((repeat (first | with_reducible exact Ext.refl _ | with_reducible assumption | with_reducible refine Ext.alloc ?_ _ | with_reducible refine Ext.drew ?_ | with_reducible refine Ext.drewN ?_ _ | with_reducible refine Ext.setCell ?_ (by first | exact Nat.le_refl _ | assumption | (simp; done) | omega) _ | with_reducible refine Ext.trans ?_ (by with_reducible assumption))); done)) Y0) (fun e => own_blk_ne HW2.out HM2.out.box (by decide) e.symm); have nf : w7.frozen? ⟨gp, 3, none⟩ = false := (Blk.grown (Blk.ext HM2.out.box (by ((repeat (first | with_reducible exact Ext.refl _ | with_reducible assumption | with_reducible refine Ext.alloc ?_ _ | with_reducible refine Ext.drew ?_ | with_reducible refine Ext.drewN ?_ _ | with_reducible refine Ext.setCell ?_ (by first | exact Nat.le_refl _ | assumption | (simp; done) | omega) _ | with_reducible refine Ext.trans ?_ (by with_reducible assumption))); done))) hg7 (fun e => own_blk_ne HW2.out HM2.out.box (by decide) e.symm)).frozen 3) | fail)
                  all_goals
                    obtain ⟨L8, hM8, hb8, hvo8, hvi8⟩ := HM2.out.deleted (j := 1) (by omega) HVY.out HYN.out hkn (by ((repeat (first | with_reducible exact Ext.refl _ | with_reducible assumption | with_reducible refine Ext.alloc ?_ _ | with_reducible refine Ext.drew ?_ | with_reducible refine Ext.drewN ?_ _ | with_reducible refine Ext.setCell ?_ (by first | exact Nat.le_refl _ | assumption | (simp; done) | omega) _ | with_reducible refine Ext.trans ?_ (by with_reducible assumption))); done)) ho7 hg7
                    have HFIN := hide (show PairAt w0 gp b (dropI d1 1 kk) (w7.setCell ⟨gp, 3, none⟩ (.slice (some ⟨gy, 0, none⟩) (ny - 1) cy)) from ⟨L8, hM8, by rw [hb8]; exact HLB.out⟩)
                    have HM8 := hide hM8
                    have HB8 := hide hb8
                    have HVO8 := hide hvo8
                    have HVI8 := hide hvi8
                    have HG7 := hide (grown_trans' (grown_of_ext (by ((repeat (first | with_reducible exact Ext.refl _ | with_reducible assumption | with_reducible refine Ext.alloc ?_ _ | with_reducible refine Ext.drew ?_ | with_reducible refine Ext.drewN ?_ _ | with_reducible refine Ext.setCell ?_ (by first | exact Nat.le_refl _ | assumption | (simp; done) | omega) _ | with_reducible refine Ext.trans ?_ (by with_reducible assumption))); done)) _) hg7 : World.grownBy W2 w7 (some gy))
                    clear ho7 hg7 hM8 hb8 hvo8 hvi8
                    go_wp2_with fail
                    go_meet
                    exact ⟨by rw [HTV2.out], by rw [HTV2.out]; exact HFIN.out⟩
                · obtain rfl : ny = 0 := by omega
                  have HTV2 := hide (show turnI d1 tk ⟨tkind, tn, tdata⟩ = (d1, tk) by rw [HTV.out, HYN.out, if_neg (by omega)])
                  go_wp2_with fail
                  go_meet
                  exact ⟨by rw [HTV2.out], by rw [HTV2.out]; exact ⟨L, HL.out, HLB.out⟩⟩
          · rcases h8 with rfl | rfl
            · as_aux_lemma =>
                have HTV := hide (show turnI d1 tk ⟨tkind, tn, tdata⟩ = (if 0 < (d1.y 0).length ∧ (d1.y 0).length < 60 then dupI d1 0 (pickN tn (d1.y 0).length) else d1, tk) by unfold turnI endOf; dsimp only; rw [HZ26.out, HZ8.out, if_neg (by omega), if_neg (by omega), if_neg (by omega), if_pos (by omega)]; rfl)
                obtain ⟨L, hL, hLb⟩ := HP2.out
                have HL := hide hL
                have HLB := hide hLb
                have hway := hL.way 0 (by omega)
                obtain ⟨Ay, cy, hvy, hny, hcy, hnil⟩ := own_form hway
                have hyl : (d1.y 0).length ≤ 10000 := by have := HS.out.s.way 0 (by omega); omega
                have y0 : W.cell? ⟨gp, 2, none⟩ = some (.slice Ay (d1.y 0).length cy) := by rw [← hvy]; exact hL.box.cell 2
                have yf : W.frozen? ⟨gp, 2, none⟩ = false := hL.box.frozen 2
                have hll : (L.ls 0).length = (d1.y 0).length := by rw [← hL.segs 0 (by omega), List.length_map]
                rw [hvy] at hway
                obtain ⟨ny, hyn⟩ : ∃ x, (d1.y 0).length = x := ⟨_, rfl⟩
                rw [hyn] at y0 hny hyl hway hll
                have HVY := hide (show L.vy 0 = .slice Ay ny cy by rw [hvy, hyn])
                have HYN := hide hyn
                have HWAY := hide hway
                have HLL := hide hll
                have HNIL := hide hnil
                unfold maxLen at hcy
                clear hL hLb hvy hyn hll hnil
                by_cases hn0 : 0 < ny
                · by_cases hn60 : ny < 60
                  · have hdr := restZ_lo (tn.tdiv 2) ny (by omega)
                    have hdr2 := restZ_hi (tn.tdiv 2) ny (by omega)
                    obtain ⟨kk, hkk⟩ : ∃ x : Nat, restZ (tn.tdiv 2) ny = x := ⟨(restZ (tn.tdiv 2) ny).toNat, by omega⟩
                    have hkn : kk < ny := by omega
                    have HPK := hide (show pickN tn ny = kk by unfold pickN; rw [hkk]; rfl)
                    obtain ⟨q, hq⟩ : ∃ x, tn.tdiv 2 = x := ⟨_, rfl⟩
                    have hqb : -9223372036854775808 ≤ q ∧ q ≤ 9223372036854775807 := by
                      rw [← hq]
                      have h1 := hk2.1
                      have h2 := hk2.2
                      have e1 := Int.tdiv_eq_ediv (a := tn) (b := 2)
                      rw [e1, show Int.sign 2 = 1 from rfl]
                      split <;> omega
                    rw [hq] at hkk
                    have HKK := hide hkk
                    have HQB := hide hqb
                    have HRK := hide (fun dd => show Calls Try.prog 35 #[.int .i64 q, .int .i64 ny] (W.drewN dd) (fun e w' => e = .returned (.int .i64 (kk : Int)) ∧ W.drewN dd = w') from by rw [← hkk]; exact rest_any q ny _ hqb.1 hqb.2 (by omega) (by omega))
                    have hqw : IntKind.i64.wrap q = q := by rw [IntKind.wrap_i64]; omega
                    clear hdr hdr2 hkk hqb
                    have HTV2 := hide (show turnI d1 tk ⟨tkind, tn, tdata⟩ = (dupI d1 0 kk, tk) by rw [HTV.out, HYN.out, if_pos ⟨hn0, hn60⟩, HPK.out])
                    obtain ⟨gy, hgy, -⟩ := own_addr HWAY.out hn0
                    subst hgy
                    have hkl2 : kk < (L.ls 0).length := by rw [HLL.out]; exact hkn
                    have hrd := Reads.of_own HWAY.out
                    have r0 := Reads.elem segC_len hrd kk hkl2 (by omega) 0 (by omega) (u := .int .u32 (L.ls 0)[kk].1.seq) rfl
                    have r1 := Reads.elem segC_len hrd kk hkl2 (by omega) 1 (by omega) (u := .int .u32 (L.ls 0)[kk].1.ack) rfl
                    have r2 := Reads.elem segC_len hrd kk hkl2 (by omega) 2 (by omega) (u := .int .i64 (L.ls 0)[kk].1.fl) rfl
                    have r3 := Reads.elem segC_len hrd kk hkl2 (by omega) 3 (by omega) (u := .int .i64 (L.ls 0)[kk].1.wd) rfl
                    have r4 := Reads.elem segC_len hrd kk hkl2 (by omega) 4 (by omega) (u := (L.ls 0)[kk].2) rfl
                    have hxm : (L.ls 0)[kk] ∈ L.ls 0 := List.getElem_mem hkl2
                    have hyk : (d1.y 0)[kk]? = some (L.ls 0)[kk].1 := by rw [← HL.out.segs 0 (by omega), List.getElem?_map, List.getElem?_eq_getElem hkl2]; rfl
                    have hso : (L.ls 0)[kk].1.Ok := HL.out.sok 0 (by omega) _ (by rw [← HL.out.segs 0 (by omega)]; exact List.mem_map.2 ⟨_, hxm, rfl⟩)
                    have hsx := HL.out.data 0 (by omega) _ hxm
                    have hfx := HL.out.free 0 (by omega) _ hxm
                    obtain ⟨x, hx⟩ : ∃ x, (L.ls 0)[kk] = x := ⟨_, rfl⟩
                    rw [hx] at r0 r1 r2 r3 r4 hyk hso hsx hfx
                    obtain ⟨⟨sq, sa, sf, sw, sd⟩, sv⟩ := x
                    obtain ⟨As, cs, hsv, hns, hcs, -⟩ := own_form hsx
                    dsimp only at r0 r1 r2 r3 r4 hyk hso hsx hfx hsv hns
                    subst hsv
                    obtain ⟨ns, hns'⟩ : ∃ x, sd.length = x := ⟨_, rfl⟩
                    have hsx' : W.ownsRow w0.heap.size 5 1 (.slice As ns cs) ns (bytesV sd) := by rw [← hns']; exact hsx
                    rw [hns'] at r4 hfx
                    have HSX := hide hsx'
                    have HNS := hide hns'
                    have hs0 : w0.heap.size ≤ W.heap.size := HL.out.ext.size
                    have hgpt : gp ≠ gt := Blk.ne_ HL.out.box HBX.out (by decide)
                    have HFX := hide hfx
                    have HSO := hide hso
                    have HYK := hide hyk
                    have hn32 : ns ≤ 32 := by rw [← hns']; exact hso.data
                    have y1 : W.cell? ⟨gy, kk * 5, none⟩ = some (.int .u32 sq) := by simpa using r0
                    have y2 : W.cell? ⟨gy, kk * 5 + 1, none⟩ = some (.int .u32 sa) := by simpa using r1
                    have y3 : W.cell? ⟨gy, kk * 5 + 2, none⟩ = some (.int .i64 sf) := by simpa using r2
                    have y4 : W.cell? ⟨gy, kk * 5 + 3, none⟩ = some (.int .i64 sw) := by simpa using r3
                    have y5 : W.cell? ⟨gy, kk * 5 + 4, none⟩ = some (.slice As ns cs) := by simpa using r4
                    clear r0 r1 r2 r3 r4 hxm hyk hso hsx hsx' hfx hx hns' hrd hns hcs
                    go_upto_region 24 with fail
                    have HRW := hide (fun W' : World => show Calls Try.prog 35 #[.int .i64 q, .int .i64 ny] W' (fun e w' => e = .returned (.int .i64 (kk : Int)) ∧ W' = w') from by rw [← HKK.out]; exact rest_any q ny W' HQB.out.1 HQB.out.2 (by omega) (by omega))
                    have hal : ∀ o : Obj, (W.drew.alloc o).cell? ⟨gp, 2, none⟩ = some (.slice (some ⟨gy, 0, none⟩) ny cy) := fun o => Ext.cell (w := W) (((Ext.refl W).drew).alloc o) y0
                    have hal2 : ∀ o : Obj, (W.alloc o).cell? ⟨gp, 2, none⟩ = some (.slice (some ⟨gy, 0, none⟩) ny cy) := fun o => Ext.cell (w := W) ((Ext.refl W).alloc o) y0
                    have hgt : W.cell? ⟨gt, 1, none⟩ = some (.int .i64 tn) := b1
                    have HBT := HBX
                    refine wp_region_pop_take (S := fun w' => w'.cell? ⟨gt, 1, none⟩ = some (.int .i64 tn) ∧ w'.cell? ⟨gp, 2, none⟩ = some (.slice (some ⟨gy, 0, none⟩) ny cy)) 32 rfl rfl (by kernel_rfl) (by kernel_rfl) ⟨hgt, y0⟩ (fun hHeld => ?_)
                    simp only [List.take_succ_cons, List.take_zero]
                    refine wpAnyH_take (i := 0) (oi := ⟨some 114, _, _, _, _, _⟩) (v := ?_) rfl (by kernel_rfl) (by kernel_rfl) (by kernel_rfl) (fun _ _ _ h => h) (Or.inl ⟨by rfl, ?_⟩) (by assumption) ?_
                    rotate_left
                    · intro w hSw
                      try dsimp only at hSw
                      go_simp
                      all_goals with_reducible rfl
                    go_frame
                    refine wpAnyH_take (i := 1) (oi := ⟨some 115, _, _, _, _, _⟩) (v := ?_) rfl (by kernel_rfl) (by kernel_rfl) (by kernel_rfl) (fun _ _ _ h => h) (Or.inl ⟨by rfl, ?_⟩) (by assumption) ?_
                    rotate_left
                    · intro w hSw
                      try dsimp only at hSw
                      go_simp
                      all_goals with_reducible rfl
                    go_frame
                    refine wpAnyH_take (i := 2) (oi := ⟨some 116, _, _, _, _, _⟩) (v := ?_) rfl (by kernel_rfl) (by kernel_rfl) (by kernel_rfl) (fun _ _ _ h => h) (Or.inl ⟨by rfl, ?_⟩) (by assumption) ?_
                    rotate_left
                    · intro w hSw
                      try dsimp only at hSw
                      go_simp
                      all_goals with_reducible rfl
                    go_frame
                    refine wpAnyH_take (i := 3) (oi := ⟨some 117, _, _, _, _, _⟩) (v := ?_) rfl (by kernel_rfl) (by kernel_rfl) (by kernel_rfl) (fun _ _ _ h => h) (Or.inl ⟨by rfl, ?_⟩) (by assumption) ?_
                    rotate_left
                    · intro w hSw
                      try dsimp only at hSw
                      go_simp
                      all_goals with_reducible rfl
                    go_frame
                    refine wpAnyH_take (i := 4) (oi := ⟨some 118, _, _, _, _, _⟩) (v := ?_) rfl (by kernel_rfl) (by kernel_rfl) (by kernel_rfl) (fun _ _ _ h => h) (Or.inl ⟨by rfl, ?_⟩) (by assumption) ?_
                    rotate_left
                    · intro w hSw
                      try dsimp only at hSw
                      go_simp
                      all_goals with_reducible rfl
                    go_frame
                    refine wpAnyH_take (i := 5) (oi := ⟨some 119, _, _, _, _, _⟩) (v := ?_) rfl (by kernel_rfl) (by kernel_rfl) (by kernel_rfl) (fun _ _ _ h => h) (Or.inl ⟨by rfl, ?_⟩) (by assumption) ?_
                    rotate_left
                    · intro w hSw
                      try dsimp only at hSw
                      go_simp
                      all_goals with_reducible rfl
                    go_frame
                    refine wpAnyH_take (i := 6) (oi := ⟨some 120, _, _, _, _, _⟩) (v := ?_) rfl (by kernel_rfl) (by kernel_rfl) (by kernel_rfl) (fun _ _ _ h => h) (Or.inl ⟨by rfl, ?_⟩) (by assumption) ?_
                    rotate_left
                    · intro w hSw
                      try dsimp only at hSw
                      go_simp
                      all_goals with_reducible rfl
                    go_frame
                    refine wpAnyH_take (i := 7) (oi := ⟨some 121, _, _, _, _, _⟩) (v := ?_) rfl (by kernel_rfl) (by kernel_rfl) (by kernel_rfl) (fun _ _ _ h => h) (Or.inl ⟨by rfl, ?_⟩) (by assumption) ?_
                    rotate_left
                    · intro w hSw
                      try dsimp only at hSw
                      go_simp
                      all_goals with_reducible rfl
                    go_frame
                    refine wpAnyH_take (i := 8) (oi := ⟨some 122, _, _, _, _, _⟩) (v := ?_) rfl (by kernel_rfl) (by kernel_rfl) (by kernel_rfl) (fun _ _ _ h => h) (Or.inl ⟨by rfl, ?_⟩) (by assumption) ?_
                    rotate_left
                    · intro w hSw
                      try dsimp only at hSw
                      go_simp
                      all_goals with_reducible rfl
                    go_frame
                    refine wpAnyH_take (i := 9) (oi := ⟨some 123, _, _, _, _, _⟩) (v := ?_) rfl (by kernel_rfl) (by kernel_rfl) (by kernel_rfl) (fun _ _ _ h => h) (Or.inl ⟨by rfl, ?_⟩) (by assumption) ?_
                    rotate_left
                    · intro w hSw
                      try dsimp only at hSw
                      go_simp
                      all_goals with_reducible rfl
                    go_frame
                    refine wpAnyH_take (i := 10) (oi := ⟨some 124, _, _, _, _, _⟩) (v := ?_) rfl (by kernel_rfl) (by kernel_rfl) (by kernel_rfl) (fun _ _ _ h => h) (Or.inl ⟨by rfl, ?_⟩) (by assumption) ?_
                    rotate_left
                    · intro w hSw
                      try dsimp only at hSw
                      go_simp
                      all_goals with_reducible rfl
                    go_frame
                    refine wpAnyH_take (i := 11) (oi := ⟨some 125, _, _, _, _, _⟩) (v := ?_) rfl (by kernel_rfl) (by kernel_rfl) (by kernel_rfl) (fun _ _ _ h => h) (Or.inl ⟨by rfl, ?_⟩) (by assumption) ?_
                    rotate_left
                    · intro w hSw
                      try dsimp only at hSw
                      go_simp
                      all_goals with_reducible rfl
                    go_frame
                    refine wpAnyH_take (i := 12) (oi := ⟨some 126, _, _, _, _, _⟩) (v := ?_) rfl (by kernel_rfl) (by kernel_rfl) (by kernel_rfl) (fun _ _ _ h => h) (Or.inl ⟨by rfl, ?_⟩) (by assumption) ?_
                    rotate_left
                    · intro w hSw
                      try dsimp only at hSw
                      go_simp
                      all_goals with_reducible rfl
                    go_frame
                    refine wpAnyH_take (i := 13) (oi := ⟨some 127, _, _, _, _, _⟩) (v := ?_) rfl (by kernel_rfl) (by kernel_rfl) (by kernel_rfl) (fun _ _ _ h => h) (Or.inl ⟨by rfl, ?_⟩) (by assumption) ?_
                    rotate_left
                    · intro w hSw
                      try dsimp only at hSw
                      go_simp
                      all_goals with_reducible rfl
                    go_frame
                    refine wpAnyH_take (i := 14) (oi := ⟨some 128, _, _, _, _, _⟩) (v := ?_) rfl (by kernel_rfl) (by kernel_rfl) (by kernel_rfl) (fun _ _ _ h => h) (Or.inl ⟨by rfl, ?_⟩) (by assumption) ?_
                    rotate_left
                    · intro w hSw
                      try dsimp only at hSw
                      go_simp
                      all_goals with_reducible rfl
                    go_frame
                    refine wpAnyH_take (i := 15) (oi := ⟨some 129, _, _, _, _, _⟩) (v := ?_) rfl (by kernel_rfl) (by kernel_rfl) (by kernel_rfl) (fun _ _ _ h => h) (Or.inl ⟨by rfl, ?_⟩) (by assumption) ?_
                    rotate_left
                    · intro w hSw
                      try dsimp only at hSw
                      go_simp
                      all_goals with_reducible rfl
                    go_frame
                    refine wpAnyH_take (i := 16) (oi := ⟨some 130, _, _, _, _, _⟩) (v := ?_) rfl (by kernel_rfl) (by kernel_rfl) (by kernel_rfl) (fun _ _ _ h => h) (Or.inl ⟨by rfl, ?_⟩) (by assumption) ?_
                    rotate_left
                    · intro w hSw
                      try dsimp only at hSw
                      go_simp
                      all_goals with_reducible rfl
                    go_frame
                    refine wpAnyH_take (i := 17) (oi := ⟨some 131, _, _, _, _, _⟩) (v := ?_) rfl (by kernel_rfl) (by kernel_rfl) (by kernel_rfl) (fun _ _ _ h => h) (Or.inl ⟨by rfl, ?_⟩) (by assumption) ?_
                    rotate_left
                    · intro w hSw
                      try dsimp only at hSw
                      go_simp
                      all_goals with_reducible rfl
                    go_frame
                    refine wpAnyH_take (i := 18) (oi := ⟨some 132, _, _, _, _, _⟩) (v := ?_) rfl (by kernel_rfl) (by kernel_rfl) (by kernel_rfl) (fun _ _ _ h => h) (Or.inl ⟨by rfl, ?_⟩) (by assumption) ?_
                    rotate_left
                    · intro w hSw
                      try dsimp only at hSw
                      go_simp
                      all_goals with_reducible rfl
                    go_frame
                    refine wpAnyH_take (i := 19) (oi := ⟨some 133, _, _, _, _, _⟩) (v := ?_) rfl (by kernel_rfl) (by kernel_rfl) (by kernel_rfl) (fun _ _ _ h => h) (Or.inl ⟨by rfl, ?_⟩) (by assumption) ?_
                    rotate_left
                    · intro w hSw
                      try dsimp only at hSw
                      go_simp
                      all_goals with_reducible rfl
                    go_frame
                    refine wpAnyH_take (i := 20) (oi := ⟨some 134, _, _, _, _, _⟩) (v := ?_) rfl (by kernel_rfl) (by kernel_rfl) (by kernel_rfl) (fun _ _ _ h => h) (Or.inl ⟨by rfl, ?_⟩) (by assumption) ?_
                    rotate_left
                    · intro w hSw
                      try dsimp only at hSw
                      go_simp
                      all_goals with_reducible rfl
                    go_frame
                    refine wpAnyH_take (i := 21) (oi := ⟨some 135, _, _, _, _, _⟩) (v := ?_) rfl (by kernel_rfl) (by kernel_rfl) (by kernel_rfl) (fun _ _ _ h => h) (Or.inl ⟨by rfl, ?_⟩) (by assumption) ?_
                    rotate_left
                    · intro w hSw
                      try dsimp only at hSw
                      go_simp
                      all_goals with_reducible rfl
                    go_frame
                    refine wpAnyH_take (i := 22) (oi := ⟨some 136, _, _, _, _, _⟩) (v := ?_) rfl (by kernel_rfl) (by kernel_rfl) (by kernel_rfl) (fun _ _ _ h => h) (Or.inl ⟨by rfl, ?_⟩) (by assumption) ?_
                    rotate_left
                    · intro w hSw
                      try dsimp only at hSw
                      go_simp
                      all_goals with_reducible rfl
                    go_frame
                    refine wpAnyH_take (i := 23) (oi := ⟨some 137, _, _, _, _, _⟩) (v := ?_) rfl (by kernel_rfl) (by kernel_rfl) (by kernel_rfl) (fun _ _ _ h => h) (Or.inl ⟨by rfl, ?_⟩) (by assumption) ?_
                    rotate_left
                    · intro w hSw
                      try dsimp only at hSw
                      go_simp
                      all_goals with_reducible rfl
                    go_frame
                    refine wpAnyH_take (i := 29) (oi := ⟨some 143, _, _, _, _, _⟩) (v := ?_) rfl (by kernel_rfl) (by kernel_rfl) (by kernel_rfl) (fun _ _ _ h => h) (Or.inl ⟨by rfl, ?_⟩) (by assumption) ?_
                    rotate_left
                    · intro w hSw
                      try dsimp only at hSw
                      go_simp
                      all_goals with_reducible rfl
                    go_frame
                    refine wpAnyH_take (i := 30) (oi := ⟨some 144, _, _, _, _, _⟩) (v := ?_) rfl (by kernel_rfl) (by kernel_rfl) (by kernel_rfl) (fun _ _ _ h => h) (Or.inl ⟨by rfl, ?_⟩) (by assumption) ?_
                    rotate_left
                    · intro w hSw
                      try dsimp only at hSw
                      go_simp
                      all_goals with_reducible rfl
                    go_frame
                    refine wpAnyH_ready (rs := [24]) (by kernel_rfl) (by simp) (AllReadyH.cons (o := ⟨some 138, _, _, _, _, _⟩) rfl (fun K hK => ?_) AllReadyH.nil)
                    go_simp
                    refine (HRW.out _).mono ?_
                    rintro r wx ⟨rfl, rfl⟩
                    go_simp
                    refine hK.out _ _ ?_ (fun hHeld => ?_)
                    · exact hHeld
                    clear hK K
                    try go_frame
                    refine wpAnyH_take (i := 25) (oi := ⟨some 139, _, _, _, _, _⟩) (v := ?_) rfl (by kernel_rfl) (by kernel_rfl) (by kernel_rfl) (fun _ _ _ h => h) (Or.inl ⟨by rfl, ?_⟩) (by assumption) ?_
                    rotate_left
                    · intro w hSw
                      try dsimp only at hSw
                      go_simp
                      all_goals with_reducible rfl
                    go_frame
                    refine wpAnyH_ready (rs := [26]) (by kernel_rfl) (by simp) (AllReadyH.cons (o := ⟨some 140, _, _, _, _, _⟩) rfl (fun K hK => ?_) AllReadyH.nil)
                    go_simp
                    refine hK.out _ _ ?_ (fun hHeld => ?_)
                    · exact hHeld
                    clear hK K
                    try go_frame
                    refine wpAnyH_ready (rs := [27]) (by kernel_rfl) (by simp) (AllReadyH.cons (o := ⟨some 141, _, _, _, _, _⟩) rfl (fun K hK => ?_) AllReadyH.nil)
                    refine step_buildSeg (by rfl) (.tmp 140) (by rfl) sq sa sf sw As ns cs (by rfl) ?_
                    refine hK.out _ _ ?_ (fun hHeld => ?_)
                    · exact ⟨Ext.cell (w := W) (by ((repeat (first | with_reducible exact Ext.refl _ | with_reducible assumption | with_reducible refine Ext.alloc ?_ _ | with_reducible refine Ext.drew ?_ | with_reducible refine Ext.drewN ?_ _ | with_reducible refine Ext.setCell ?_ (by first | exact Nat.le_refl _ | assumption | (simp; done) | omega) _ | with_reducible refine Ext.trans ?_ (by with_reducible assumption))); done)) hgt, Ext.cell (w := W) (by ((repeat (first | with_reducible exact Ext.refl _ | with_reducible assumption | with_reducible refine Ext.alloc ?_ _ | with_reducible refine Ext.drew ?_ | with_reducible refine Ext.drewN ?_ _ | with_reducible refine Ext.setCell ?_ (by first | exact Nat.le_refl _ | assumption | (simp; done) | omega) _ | with_reducible refine Ext.trans ?_ (by with_reducible assumption))); done)) y0⟩
                    clear hK K
                    try go_frame
                    refine wpAnyH_ready (rs := [28]) (by kernel_rfl) (by simp) (AllReadyH.cons (o := ⟨some 142, _, _, _, _, _⟩) rfl (fun K hK => ?_) AllReadyH.nil)
                    refine step_append_any _ (by rfl) (.tmp 121) (.tmp 141) 27 (by rfl) w0.heap.size 49 i0 _ 5 48 Try.underlying27 hi0 hz0 hz1 hz2 rfl (by omega) (.slice (some ⟨gy, 0, none⟩) ny cy) ny ((L.ls 0).flatMap segC) (by rfl) (Ext.own (w := W) (by ((repeat (first | with_reducible exact Ext.refl _ | with_reducible assumption | with_reducible refine Ext.alloc ?_ _ | with_reducible refine Ext.drew ?_ | with_reducible refine Ext.drewN ?_ _ | with_reducible refine Ext.setCell ?_ (by first | exact Nat.le_refl _ | assumption | (simp; done) | omega) _ | with_reducible refine Ext.trans ?_ (by with_reducible assumption))); done)) HWAY.out) _ _ 1 1 (segC (⟨sq, sa, sf, sw, sd⟩, .slice As ns cs)) (by rfl) (Blk.new W.drew 49 #[.int .u32 sq, .int .u32 sa, .int .i64 sf, .int .i64 sw, .slice As ns cs]).reads5 (by simp [segC, Value.oneCell']) (by simp only [maxLen]; omega) (by omega) (Nat.le_trans hs0 (Ext.size (w := W) (by ((repeat (first | with_reducible exact Ext.refl _ | with_reducible assumption | with_reducible refine Ext.alloc ?_ _ | with_reducible refine Ext.drew ?_ | with_reducible refine Ext.drewN ?_ _ | with_reducible refine Ext.setCell ?_ (by first | exact Nat.le_refl _ | assumption | (simp; done) | omega) _ | with_reducible refine Ext.trans ?_ (by with_reducible assumption))); done)))) ?_
                    intro A7 c7 w7 ho7 hg7 ha7
                    have n5 : w7.cell? ⟨gp, 2, none⟩ = some (.slice (some ⟨gy, 0, none⟩) ny cy) := hg7.cell (Ext.cell (w := W) (by ((repeat (first | with_reducible exact Ext.refl _ | with_reducible assumption | with_reducible refine Ext.alloc ?_ _ | with_reducible refine Ext.drew ?_ | with_reducible refine Ext.drewN ?_ _ | with_reducible refine Ext.setCell ?_ (by first | exact Nat.le_refl _ | assumption | (simp; done) | omega) _ | with_reducible refine Ext.trans ?_ (by with_reducible assumption))); done)) y0) (fun e => own_blk_ne HWAY.out HL.out.box (by decide) e.symm)
                    have nf : w7.frozen? ⟨gp, 2, none⟩ = false := (Blk.grown (Blk.ext HL.out.box (by ((repeat (first | with_reducible exact Ext.refl _ | with_reducible assumption | with_reducible refine Ext.alloc ?_ _ | with_reducible refine Ext.drew ?_ | with_reducible refine Ext.drewN ?_ _ | with_reducible refine Ext.setCell ?_ (by first | exact Nat.le_refl _ | assumption | (simp; done) | omega) _ | with_reducible refine Ext.trans ?_ (by with_reducible assumption))); done))) hg7 (fun e => own_blk_ne HWAY.out HL.out.box (by decide) e.symm)).frozen 2
                    have kt0 : Blk w7 gt 67 _ := Blk.grown (Blk.ext HBT.out (by ((repeat (first | with_reducible exact Ext.refl _ | with_reducible assumption | with_reducible refine Ext.alloc ?_ _ | with_reducible refine Ext.drew ?_ | with_reducible refine Ext.drewN ?_ _ | with_reducible refine Ext.setCell ?_ (by first | exact Nat.le_refl _ | assumption | (simp; done) | omega) _ | with_reducible refine Ext.trans ?_ (by with_reducible assumption))); done))) hg7 (fun e => own_blk_ne HWAY.out HBT.out (by decide) e.symm)
                    have kt1 : w7.cell? ⟨gt, 1, none⟩ = some (.int .i64 tn) := kt0.cell 1
                    refine hK.out _ _ ?_ (fun hHeld => ?_)
                    · exact ⟨kt1, n5⟩
                    clear hK K
                    try go_frame
                    refine wpAnyH_take (i := 31) (oi := ⟨some 145, _, _, _, _, _⟩) (v := ?_) rfl (by kernel_rfl) (by kernel_rfl) (by kernel_rfl) (fun _ _ _ h => h) (Or.inl ⟨by rfl, ?_⟩) (by assumption) ?_
                    rotate_left
                    · intro w hSw
                      try dsimp only at hSw
                      go_simp
                      all_goals with_reducible rfl
                    go_frame
                    refine wpAnyH_done (by kernel_rfl) ?_ _
                    refine pop_last rfl ?_
                    go_wp2_with fail
                    all_goals
                      have HFIN := hide (show PairAt w0 gp b (dupI d1 0 kk) (w7.setCell ⟨gp, 2, none⟩ (.slice A7 (ny + 1) c7)) from by
                        have hME := HL.out.extend (show Ext W (W.drew.alloc (.cells #[.int .u32 sq, .int .u32 sa, .int .i64 sf, .int .i64 sw, .slice As ns cs] 49)) from ((Ext.refl W).drew).alloc _)
                        have hyn := HYN.out
                        subst hyn
                        obtain ⟨L', h1, h2⟩ := hME.pushed (j := 0) (by omega) (more := [⟨sq, sa, sf, sw, sd⟩]) (ls1 := [(⟨sq, sa, sf, sw, sd⟩, .slice As ns cs)]) (k1 := 1) HVY.out rfl rfl (fun x hx => by obtain rfl := List.mem_singleton.1 hx; show World.ownsRow _ _ _ _ _ sd.length _; rw [HNS.out]; exact (((Ext.refl W).drew).alloc _).own HSX.out) (fun s hs => by obtain rfl := List.mem_singleton.1 hs; exact HSO.out) (fun x hx q hq j hj => by obtain rfl := List.mem_singleton.1 hx; exact HFX.out q hq j hj) (by simpa using ho7) hg7 ha7
                        refine ⟨L', ?_, by rw [h2]; exact HLB.out⟩
                        unfold dupI
                        rw [HYK.out]
                        exact h1)
                      clear ho7 hg7 ha7 n5 nf kt0 kt1
                      go_wp2_with fail
                      go_meet
                      exact ⟨by rw [HTV2.out], by rw [HTV2.out]; exact HFIN.out⟩
                  · have HTV2 := hide (show turnI d1 tk ⟨tkind, tn, tdata⟩ = (d1, tk) by rw [HTV.out, HYN.out, if_neg (by omega)])
                    have hI : ¬ ((ny : Int) < 60) := by omega
                    go_wp2_with fail
                    go_meet
                    exact ⟨by rw [HTV2.out], by rw [HTV2.out]; exact ⟨L, HL.out, HLB.out⟩⟩
                · obtain rfl : ny = 0 := by omega
                  have HTV2 := hide (show turnI d1 tk ⟨tkind, tn, tdata⟩ = (d1, tk) by rw [HTV.out, HYN.out, if_neg (by omega)])
                  go_wp2_with fail
                  go_meet
                  exact ⟨by rw [HTV2.out], by rw [HTV2.out]; exact ⟨L, HL.out, HLB.out⟩⟩
            · as_aux_lemma =>
                have HTV := hide (show turnI d1 tk ⟨tkind, tn, tdata⟩ = (if 0 < (d1.y 1).length ∧ (d1.y 1).length < 60 then dupI d1 1 (pickN tn (d1.y 1).length) else d1, tk) by unfold turnI endOf; dsimp only; rw [HZ26.out, HZ8.out, if_neg (by omega), if_neg (by omega), if_neg (by omega), if_pos (by omega)]; rfl)
                obtain ⟨L, hL, hLb⟩ := HP2.out
                have HL := hide hL
                have HLB := hide hLb
                have hway := hL.way 1 (by omega)
                obtain ⟨Ay, cy, hvy, hny, hcy, hnil⟩ := own_form hway
                have hyl : (d1.y 1).length ≤ 10000 := by have := HS.out.s.way 1 (by omega); omega
                have y0 : W.cell? ⟨gp, 3, none⟩ = some (.slice Ay (d1.y 1).length cy) := by rw [← hvy]; exact hL.box.cell 3
                have yf : W.frozen? ⟨gp, 3, none⟩ = false := hL.box.frozen 3
                have hll : (L.ls 1).length = (d1.y 1).length := by rw [← hL.segs 1 (by omega), List.length_map]
                rw [hvy] at hway
                obtain ⟨ny, hyn⟩ : ∃ x, (d1.y 1).length = x := ⟨_, rfl⟩
                rw [hyn] at y0 hny hyl hway hll
                have HVY := hide (show L.vy 1 = .slice Ay ny cy by rw [hvy, hyn])
                have HYN := hide hyn
                have HWAY := hide hway
                have HLL := hide hll
                have HNIL := hide hnil
                unfold maxLen at hcy
                clear hL hLb hvy hyn hll hnil
                by_cases hn0 : 0 < ny
                · by_cases hn60 : ny < 60
                  · have hdr := restZ_lo (tn.tdiv 2) ny (by omega)
                    have hdr2 := restZ_hi (tn.tdiv 2) ny (by omega)
                    obtain ⟨kk, hkk⟩ : ∃ x : Nat, restZ (tn.tdiv 2) ny = x := ⟨(restZ (tn.tdiv 2) ny).toNat, by omega⟩
                    have hkn : kk < ny := by omega
                    have HPK := hide (show pickN tn ny = kk by unfold pickN; rw [hkk]; rfl)
                    obtain ⟨q, hq⟩ : ∃ x, tn.tdiv 2 = x := ⟨_, rfl⟩
                    have hqb : -9223372036854775808 ≤ q ∧ q ≤ 9223372036854775807 := by
                      rw [← hq]
                      have h1 := hk2.1
                      have h2 := hk2.2
                      have e1 := Int.tdiv_eq_ediv (a := tn) (b := 2)
                      rw [e1, show Int.sign 2 = 1 from rfl]
                      split <;> omega
                    rw [hq] at hkk
                    have HKK := hide hkk
                    have HQB := hide hqb
                    have HRK := hide (fun dd => show Calls Try.prog 35 #[.int .i64 q, .int .i64 ny] (W.drewN dd) (fun e w' => e = .returned (.int .i64 (kk : Int)) ∧ W.drewN dd = w') from by rw [← hkk]; exact rest_any q ny _ hqb.1 hqb.2 (by omega) (by omega))
                    have hqw : IntKind.i64.wrap q = q := by rw [IntKind.wrap_i64]; omega
                    clear hdr hdr2 hkk hqb
                    have HTV2 := hide (show turnI d1 tk ⟨tkind, tn, tdata⟩ = (dupI d1 1 kk, tk) by rw [HTV.out, HYN.out, if_pos ⟨hn0, hn60⟩, HPK.out])
                    obtain ⟨gy, hgy, -⟩ := own_addr HWAY.out hn0
                    subst hgy
                    have hkl2 : kk < (L.ls 1).length := by rw [HLL.out]; exact hkn
                    have hrd := Reads.of_own HWAY.out
                    have r0 := Reads.elem segC_len hrd kk hkl2 (by omega) 0 (by omega) (u := .int .u32 (L.ls 1)[kk].1.seq) rfl
                    have r1 := Reads.elem segC_len hrd kk hkl2 (by omega) 1 (by omega) (u := .int .u32 (L.ls 1)[kk].1.ack) rfl
                    have r2 := Reads.elem segC_len hrd kk hkl2 (by omega) 2 (by omega) (u := .int .i64 (L.ls 1)[kk].1.fl) rfl
                    have r3 := Reads.elem segC_len hrd kk hkl2 (by omega) 3 (by omega) (u := .int .i64 (L.ls 1)[kk].1.wd) rfl
                    have r4 := Reads.elem segC_len hrd kk hkl2 (by omega) 4 (by omega) (u := (L.ls 1)[kk].2) rfl
                    have hxm : (L.ls 1)[kk] ∈ L.ls 1 := List.getElem_mem hkl2
                    have hyk : (d1.y 1)[kk]? = some (L.ls 1)[kk].1 := by rw [← HL.out.segs 1 (by omega), List.getElem?_map, List.getElem?_eq_getElem hkl2]; rfl
                    have hso : (L.ls 1)[kk].1.Ok := HL.out.sok 1 (by omega) _ (by rw [← HL.out.segs 1 (by omega)]; exact List.mem_map.2 ⟨_, hxm, rfl⟩)
                    have hsx := HL.out.data 1 (by omega) _ hxm
                    have hfx := HL.out.free 1 (by omega) _ hxm
                    obtain ⟨x, hx⟩ : ∃ x, (L.ls 1)[kk] = x := ⟨_, rfl⟩
                    rw [hx] at r0 r1 r2 r3 r4 hyk hso hsx hfx
                    obtain ⟨⟨sq, sa, sf, sw, sd⟩, sv⟩ := x
                    obtain ⟨As, cs, hsv, hns, hcs, -⟩ := own_form hsx
                    dsimp only at r0 r1 r2 r3 r4 hyk hso hsx hfx hsv hns
                    subst hsv
                    obtain ⟨ns, hns'⟩ : ∃ x, sd.length = x := ⟨_, rfl⟩
                    have hsx' : W.ownsRow w0.heap.size 5 1 (.slice As ns cs) ns (bytesV sd) := by rw [← hns']; exact hsx
                    rw [hns'] at r4 hfx
                    have HSX := hide hsx'
                    have HNS := hide hns'
                    have hs0 : w0.heap.size ≤ W.heap.size := HL.out.ext.size
                    have hgpt : gp ≠ gt := Blk.ne_ HL.out.box HBX.out (by decide)
                    have HFX := hide hfx
                    have HSO := hide hso
                    have HYK := hide hyk
                    have hn32 : ns ≤ 32 := by rw [← hns']; exact hso.data
                    have y1 : W.cell? ⟨gy, kk * 5, none⟩ = some (.int .u32 sq) := by simpa using r0
                    have y2 : W.cell? ⟨gy, kk * 5 + 1, none⟩ = some (.int .u32 sa) := by simpa using r1
                    have y3 : W.cell? ⟨gy, kk * 5 + 2, none⟩ = some (.int .i64 sf) := by simpa using r2
                    have y4 : W.cell? ⟨gy, kk * 5 + 3, none⟩ = some (.int .i64 sw) := by simpa using r3
                    have y5 : W.cell? ⟨gy, kk * 5 + 4, none⟩ = some (.slice As ns cs) := by simpa using r4
                    clear r0 r1 r2 r3 r4 hxm hyk hso hsx hsx' hfx hx hns' hrd hns hcs
                    go_upto_region 24 with fail
                    have HRW := hide (fun W' : World => show Calls Try.prog 35 #[.int .i64 q, .int .i64 ny] W' (fun e w' => e = .returned (.int .i64 (kk : Int)) ∧ W' = w') from by rw [← HKK.out]; exact rest_any q ny W' HQB.out.1 HQB.out.2 (by omega) (by omega))
                    have hal : ∀ o : Obj, (W.drew.alloc o).cell? ⟨gp, 3, none⟩ = some (.slice (some ⟨gy, 0, none⟩) ny cy) := fun o => Ext.cell (w := W) (((Ext.refl W).drew).alloc o) y0
                    have hal2 : ∀ o : Obj, (W.alloc o).cell? ⟨gp, 3, none⟩ = some (.slice (some ⟨gy, 0, none⟩) ny cy) := fun o => Ext.cell (w := W) ((Ext.refl W).alloc o) y0
                    have hgt : W.cell? ⟨gt, 1, none⟩ = some (.int .i64 tn) := b1
                    have HBT := HBX
                    refine wp_region_pop_take (S := fun w' => w'.cell? ⟨gt, 1, none⟩ = some (.int .i64 tn) ∧ w'.cell? ⟨gp, 3, none⟩ = some (.slice (some ⟨gy, 0, none⟩) ny cy)) 32 rfl rfl (by kernel_rfl) (by kernel_rfl) ⟨hgt, y0⟩ (fun hHeld => ?_)
                    simp only [List.take_succ_cons, List.take_zero]
                    refine wpAnyH_take (i := 0) (oi := ⟨some 114, _, _, _, _, _⟩) (v := ?_) rfl (by kernel_rfl) (by kernel_rfl) (by kernel_rfl) (fun _ _ _ h => h) (Or.inl ⟨by rfl, ?_⟩) (by assumption) ?_
                    rotate_left
                    · intro w hSw
                      try dsimp only at hSw
                      go_simp
                      all_goals with_reducible rfl
                    go_frame
                    refine wpAnyH_take (i := 1) (oi := ⟨some 115, _, _, _, _, _⟩) (v := ?_) rfl (by kernel_rfl) (by kernel_rfl) (by kernel_rfl) (fun _ _ _ h => h) (Or.inl ⟨by rfl, ?_⟩) (by assumption) ?_
                    rotate_left
                    · intro w hSw
                      try dsimp only at hSw
                      go_simp
                      all_goals with_reducible rfl
                    go_frame
                    refine wpAnyH_take (i := 2) (oi := ⟨some 116, _, _, _, _, _⟩) (v := ?_) rfl (by kernel_rfl) (by kernel_rfl) (by kernel_rfl) (fun _ _ _ h => h) (Or.inl ⟨by rfl, ?_⟩) (by assumption) ?_
                    rotate_left
                    · intro w hSw
                      try dsimp only at hSw
                      go_simp
                      all_goals with_reducible rfl
                    go_frame
                    refine wpAnyH_take (i := 3) (oi := ⟨some 117, _, _, _, _, _⟩) (v := ?_) rfl (by kernel_rfl) (by kernel_rfl) (by kernel_rfl) (fun _ _ _ h => h) (Or.inl ⟨by rfl, ?_⟩) (by assumption) ?_
                    rotate_left
                    · intro w hSw
                      try dsimp only at hSw
                      go_simp
                      all_goals with_reducible rfl
                    go_frame
                    refine wpAnyH_take (i := 4) (oi := ⟨some 118, _, _, _, _, _⟩) (v := ?_) rfl (by kernel_rfl) (by kernel_rfl) (by kernel_rfl) (fun _ _ _ h => h) (Or.inl ⟨by rfl, ?_⟩) (by assumption) ?_
                    rotate_left
                    · intro w hSw
                      try dsimp only at hSw
                      go_simp
                      all_goals with_reducible rfl
                    go_frame
                    refine wpAnyH_take (i := 5) (oi := ⟨some 119, _, _, _, _, _⟩) (v := ?_) rfl (by kernel_rfl) (by kernel_rfl) (by kernel_rfl) (fun _ _ _ h => h) (Or.inl ⟨by rfl, ?_⟩) (by assumption) ?_
                    rotate_left
                    · intro w hSw
                      try dsimp only at hSw
                      go_simp
                      all_goals with_reducible rfl
                    go_frame
                    refine wpAnyH_take (i := 6) (oi := ⟨some 120, _, _, _, _, _⟩) (v := ?_) rfl (by kernel_rfl) (by kernel_rfl) (by kernel_rfl) (fun _ _ _ h => h) (Or.inl ⟨by rfl, ?_⟩) (by assumption) ?_
                    rotate_left
                    · intro w hSw
                      try dsimp only at hSw
                      go_simp
                      all_goals with_reducible rfl
                    go_frame
                    refine wpAnyH_take (i := 7) (oi := ⟨some 121, _, _, _, _, _⟩) (v := ?_) rfl (by kernel_rfl) (by kernel_rfl) (by kernel_rfl) (fun _ _ _ h => h) (Or.inl ⟨by rfl, ?_⟩) (by assumption) ?_
                    rotate_left
                    · intro w hSw
                      try dsimp only at hSw
                      go_simp
                      all_goals with_reducible rfl
                    go_frame
                    refine wpAnyH_take (i := 8) (oi := ⟨some 122, _, _, _, _, _⟩) (v := ?_) rfl (by kernel_rfl) (by kernel_rfl) (by kernel_rfl) (fun _ _ _ h => h) (Or.inl ⟨by rfl, ?_⟩) (by assumption) ?_
                    rotate_left
                    · intro w hSw
                      try dsimp only at hSw
                      go_simp
                      all_goals with_reducible rfl
                    go_frame
                    refine wpAnyH_take (i := 9) (oi := ⟨some 123, _, _, _, _, _⟩) (v := ?_) rfl (by kernel_rfl) (by kernel_rfl) (by kernel_rfl) (fun _ _ _ h => h) (Or.inl ⟨by rfl, ?_⟩) (by assumption) ?_
                    rotate_left
                    · intro w hSw
                      try dsimp only at hSw
                      go_simp
                      all_goals with_reducible rfl
                    go_frame
                    refine wpAnyH_take (i := 10) (oi := ⟨some 124, _, _, _, _, _⟩) (v := ?_) rfl (by kernel_rfl) (by kernel_rfl) (by kernel_rfl) (fun _ _ _ h => h) (Or.inl ⟨by rfl, ?_⟩) (by assumption) ?_
                    rotate_left
                    · intro w hSw
                      try dsimp only at hSw
                      go_simp
                      all_goals with_reducible rfl
                    go_frame
                    refine wpAnyH_take (i := 11) (oi := ⟨some 125, _, _, _, _, _⟩) (v := ?_) rfl (by kernel_rfl) (by kernel_rfl) (by kernel_rfl) (fun _ _ _ h => h) (Or.inl ⟨by rfl, ?_⟩) (by assumption) ?_
                    rotate_left
                    · intro w hSw
                      try dsimp only at hSw
                      go_simp
                      all_goals with_reducible rfl
                    go_frame
                    refine wpAnyH_take (i := 12) (oi := ⟨some 126, _, _, _, _, _⟩) (v := ?_) rfl (by kernel_rfl) (by kernel_rfl) (by kernel_rfl) (fun _ _ _ h => h) (Or.inl ⟨by rfl, ?_⟩) (by assumption) ?_
                    rotate_left
                    · intro w hSw
                      try dsimp only at hSw
                      go_simp
                      all_goals with_reducible rfl
                    go_frame
                    refine wpAnyH_take (i := 13) (oi := ⟨some 127, _, _, _, _, _⟩) (v := ?_) rfl (by kernel_rfl) (by kernel_rfl) (by kernel_rfl) (fun _ _ _ h => h) (Or.inl ⟨by rfl, ?_⟩) (by assumption) ?_
                    rotate_left
                    · intro w hSw
                      try dsimp only at hSw
                      go_simp
                      all_goals with_reducible rfl
                    go_frame
                    refine wpAnyH_take (i := 14) (oi := ⟨some 128, _, _, _, _, _⟩) (v := ?_) rfl (by kernel_rfl) (by kernel_rfl) (by kernel_rfl) (fun _ _ _ h => h) (Or.inl ⟨by rfl, ?_⟩) (by assumption) ?_
                    rotate_left
                    · intro w hSw
                      try dsimp only at hSw
                      go_simp
                      all_goals with_reducible rfl
                    go_frame
                    refine wpAnyH_take (i := 15) (oi := ⟨some 129, _, _, _, _, _⟩) (v := ?_) rfl (by kernel_rfl) (by kernel_rfl) (by kernel_rfl) (fun _ _ _ h => h) (Or.inl ⟨by rfl, ?_⟩) (by assumption) ?_
                    rotate_left
                    · intro w hSw
                      try dsimp only at hSw
                      go_simp
                      all_goals with_reducible rfl
                    go_frame
                    refine wpAnyH_take (i := 16) (oi := ⟨some 130, _, _, _, _, _⟩) (v := ?_) rfl (by kernel_rfl) (by kernel_rfl) (by kernel_rfl) (fun _ _ _ h => h) (Or.inl ⟨by rfl, ?_⟩) (by assumption) ?_
                    rotate_left
                    · intro w hSw
                      try dsimp only at hSw
                      go_simp
                      all_goals with_reducible rfl
                    go_frame
                    refine wpAnyH_take (i := 17) (oi := ⟨some 131, _, _, _, _, _⟩) (v := ?_) rfl (by kernel_rfl) (by kernel_rfl) (by kernel_rfl) (fun _ _ _ h => h) (Or.inl ⟨by rfl, ?_⟩) (by assumption) ?_
                    rotate_left
                    · intro w hSw
                      try dsimp only at hSw
                      go_simp
                      all_goals with_reducible rfl
                    go_frame
                    refine wpAnyH_take (i := 18) (oi := ⟨some 132, _, _, _, _, _⟩) (v := ?_) rfl (by kernel_rfl) (by kernel_rfl) (by kernel_rfl) (fun _ _ _ h => h) (Or.inl ⟨by rfl, ?_⟩) (by assumption) ?_
                    rotate_left
                    · intro w hSw
                      try dsimp only at hSw
                      go_simp
                      all_goals with_reducible rfl
                    go_frame
                    refine wpAnyH_take (i := 19) (oi := ⟨some 133, _, _, _, _, _⟩) (v := ?_) rfl (by kernel_rfl) (by kernel_rfl) (by kernel_rfl) (fun _ _ _ h => h) (Or.inl ⟨by rfl, ?_⟩) (by assumption) ?_
                    rotate_left
                    · intro w hSw
                      try dsimp only at hSw
                      go_simp
                      all_goals with_reducible rfl
                    go_frame
                    refine wpAnyH_take (i := 20) (oi := ⟨some 134, _, _, _, _, _⟩) (v := ?_) rfl (by kernel_rfl) (by kernel_rfl) (by kernel_rfl) (fun _ _ _ h => h) (Or.inl ⟨by rfl, ?_⟩) (by assumption) ?_
                    rotate_left
                    · intro w hSw
                      try dsimp only at hSw
                      go_simp
                      all_goals with_reducible rfl
                    go_frame
                    refine wpAnyH_take (i := 21) (oi := ⟨some 135, _, _, _, _, _⟩) (v := ?_) rfl (by kernel_rfl) (by kernel_rfl) (by kernel_rfl) (fun _ _ _ h => h) (Or.inl ⟨by rfl, ?_⟩) (by assumption) ?_
                    rotate_left
                    · intro w hSw
                      try dsimp only at hSw
                      go_simp
                      all_goals with_reducible rfl
                    go_frame
                    refine wpAnyH_take (i := 22) (oi := ⟨some 136, _, _, _, _, _⟩) (v := ?_) rfl (by kernel_rfl) (by kernel_rfl) (by kernel_rfl) (fun _ _ _ h => h) (Or.inl ⟨by rfl, ?_⟩) (by assumption) ?_
                    rotate_left
                    · intro w hSw
                      try dsimp only at hSw
                      go_simp
                      all_goals with_reducible rfl
                    go_frame
                    refine wpAnyH_take (i := 23) (oi := ⟨some 137, _, _, _, _, _⟩) (v := ?_) rfl (by kernel_rfl) (by kernel_rfl) (by kernel_rfl) (fun _ _ _ h => h) (Or.inl ⟨by rfl, ?_⟩) (by assumption) ?_
                    rotate_left
                    · intro w hSw
                      try dsimp only at hSw
                      go_simp
                      all_goals with_reducible rfl
                    go_frame
                    refine wpAnyH_take (i := 29) (oi := ⟨some 143, _, _, _, _, _⟩) (v := ?_) rfl (by kernel_rfl) (by kernel_rfl) (by kernel_rfl) (fun _ _ _ h => h) (Or.inl ⟨by rfl, ?_⟩) (by assumption) ?_
                    rotate_left
                    · intro w hSw
                      try dsimp only at hSw
                      go_simp
                      all_goals with_reducible rfl
                    go_frame
                    refine wpAnyH_take (i := 30) (oi := ⟨some 144, _, _, _, _, _⟩) (v := ?_) rfl (by kernel_rfl) (by kernel_rfl) (by kernel_rfl) (fun _ _ _ h => h) (Or.inl ⟨by rfl, ?_⟩) (by assumption) ?_
                    rotate_left
                    · intro w hSw
                      try dsimp only at hSw
                      go_simp
                      all_goals with_reducible rfl
                    go_frame
                    refine wpAnyH_ready (rs := [24]) (by kernel_rfl) (by simp) (AllReadyH.cons (o := ⟨some 138, _, _, _, _, _⟩) rfl (fun K hK => ?_) AllReadyH.nil)
                    go_simp
                    refine (HRW.out _).mono ?_
                    rintro r wx ⟨rfl, rfl⟩
                    go_simp
                    refine hK.out _ _ ?_ (fun hHeld => ?_)
                    · exact hHeld
                    clear hK K
                    try go_frame
                    refine wpAnyH_take (i := 25) (oi := ⟨some 139, _, _, _, _, _⟩) (v := ?_) rfl (by kernel_rfl) (by kernel_rfl) (by kernel_rfl) (fun _ _ _ h => h) (Or.inl ⟨by rfl, ?_⟩) (by assumption) ?_
                    rotate_left
                    · intro w hSw
                      try dsimp only at hSw
                      go_simp
                      all_goals with_reducible rfl
                    go_frame
                    refine wpAnyH_ready (rs := [26]) (by kernel_rfl) (by simp) (AllReadyH.cons (o := ⟨some 140, _, _, _, _, _⟩) rfl (fun K hK => ?_) AllReadyH.nil)
                    go_simp
                    refine hK.out _ _ ?_ (fun hHeld => ?_)
                    · exact hHeld
                    clear hK K
                    try go_frame
                    refine wpAnyH_ready (rs := [27]) (by kernel_rfl) (by simp) (AllReadyH.cons (o := ⟨some 141, _, _, _, _, _⟩) rfl (fun K hK => ?_) AllReadyH.nil)
                    refine step_buildSeg (by rfl) (.tmp 140) (by rfl) sq sa sf sw As ns cs (by rfl) ?_
                    refine hK.out _ _ ?_ (fun hHeld => ?_)
                    · exact ⟨Ext.cell (w := W) (by ((repeat (first | with_reducible exact Ext.refl _ | with_reducible assumption | with_reducible refine Ext.alloc ?_ _ | with_reducible refine Ext.drew ?_ | with_reducible refine Ext.drewN ?_ _ | with_reducible refine Ext.setCell ?_ (by first | exact Nat.le_refl _ | assumption | (simp; done) | omega) _ | with_reducible refine Ext.trans ?_ (by with_reducible assumption))); done)) hgt, Ext.cell (w := W) (by ((repeat (first | with_reducible exact Ext.refl _ | with_reducible assumption | with_reducible refine Ext.alloc ?_ _ | with_reducible refine Ext.drew ?_ | with_reducible refine Ext.drewN ?_ _ | with_reducible refine Ext.setCell ?_ (by first | exact Nat.le_refl _ | assumption | (simp; done) | omega) _ | with_reducible refine Ext.trans ?_ (by with_reducible assumption))); done)) y0⟩
                    clear hK K
                    try go_frame
                    refine wpAnyH_ready (rs := [28]) (by kernel_rfl) (by simp) (AllReadyH.cons (o := ⟨some 142, _, _, _, _, _⟩) rfl (fun K hK => ?_) AllReadyH.nil)
                    refine step_append_any _ (by rfl) (.tmp 121) (.tmp 141) 27 (by rfl) w0.heap.size 49 i0 _ 5 48 Try.underlying27 hi0 hz0 hz1 hz2 rfl (by omega) (.slice (some ⟨gy, 0, none⟩) ny cy) ny ((L.ls 1).flatMap segC) (by rfl) (Ext.own (w := W) (by ((repeat (first | with_reducible exact Ext.refl _ | with_reducible assumption | with_reducible refine Ext.alloc ?_ _ | with_reducible refine Ext.drew ?_ | with_reducible refine Ext.drewN ?_ _ | with_reducible refine Ext.setCell ?_ (by first | exact Nat.le_refl _ | assumption | (simp; done) | omega) _ | with_reducible refine Ext.trans ?_ (by with_reducible assumption))); done)) HWAY.out) _ _ 1 1 (segC (⟨sq, sa, sf, sw, sd⟩, .slice As ns cs)) (by rfl) (Blk.new W.drew 49 #[.int .u32 sq, .int .u32 sa, .int .i64 sf, .int .i64 sw, .slice As ns cs]).reads5 (by simp [segC, Value.oneCell']) (by simp only [maxLen]; omega) (by omega) (Nat.le_trans hs0 (Ext.size (w := W) (by ((repeat (first | with_reducible exact Ext.refl _ | with_reducible assumption | with_reducible refine Ext.alloc ?_ _ | with_reducible refine Ext.drew ?_ | with_reducible refine Ext.drewN ?_ _ | with_reducible refine Ext.setCell ?_ (by first | exact Nat.le_refl _ | assumption | (simp; done) | omega) _ | with_reducible refine Ext.trans ?_ (by with_reducible assumption))); done)))) ?_
                    intro A7 c7 w7 ho7 hg7 ha7
                    have n5 : w7.cell? ⟨gp, 3, none⟩ = some (.slice (some ⟨gy, 0, none⟩) ny cy) := hg7.cell (Ext.cell (w := W) (by ((repeat (first | with_reducible exact Ext.refl _ | with_reducible assumption | with_reducible refine Ext.alloc ?_ _ | with_reducible refine Ext.drew ?_ | with_reducible refine Ext.drewN ?_ _ | with_reducible refine Ext.setCell ?_ (by first | exact Nat.le_refl _ | assumption | (simp; done) | omega) _ | with_reducible refine Ext.trans ?_ (by with_reducible assumption))); done)) y0) (fun e => own_blk_ne HWAY.out HL.out.box (by decide) e.symm)
                    have nf : w7.frozen? ⟨gp, 3, none⟩ = false := (Blk.grown (Blk.ext HL.out.box (by ((repeat (first | with_reducible exact Ext.refl _ | with_reducible assumption | with_reducible refine Ext.alloc ?_ _ | with_reducible refine Ext.drew ?_ | with_reducible refine Ext.drewN ?_ _ | with_reducible refine Ext.setCell ?_ (by first | exact Nat.le_refl _ | assumption | (simp; done) | omega) _ | with_reducible refine Ext.trans ?_ (by with_reducible assumption))); done))) hg7 (fun e => own_blk_ne HWAY.out HL.out.box (by decide) e.symm)).frozen 3
                    have kt0 : Blk w7 gt 67 _ := Blk.grown (Blk.ext HBT.out (by ((repeat (first | with_reducible exact Ext.refl _ | with_reducible assumption | with_reducible refine Ext.alloc ?_ _ | with_reducible refine Ext.drew ?_ | with_reducible refine Ext.drewN ?_ _ | with_reducible refine Ext.setCell ?_ (by first | exact Nat.le_refl _ | assumption | (simp; done) | omega) _ | with_reducible refine Ext.trans ?_ (by with_reducible assumption))); done))) hg7 (fun e => own_blk_ne HWAY.out HBT.out (by decide) e.symm)
                    have kt1 : w7.cell? ⟨gt, 1, none⟩ = some (.int .i64 tn) := kt0.cell 1
                    refine hK.out _ _ ?_ (fun hHeld => ?_)
                    · exact ⟨kt1, n5⟩
                    clear hK K
                    try go_frame
                    refine wpAnyH_take (i := 31) (oi := ⟨some 145, _, _, _, _, _⟩) (v := ?_) rfl (by kernel_rfl) (by kernel_rfl) (by kernel_rfl) (fun _ _ _ h => h) (Or.inl ⟨by rfl, ?_⟩) (by assumption) ?_
                    rotate_left
                    · intro w hSw
                      try dsimp only at hSw
                      go_simp
                      all_goals with_reducible rfl
                    go_frame
                    refine wpAnyH_done (by kernel_rfl) ?_ _
                    refine pop_last rfl ?_
                    go_wp2_with fail
                    all_goals
                      have HFIN := hide (show PairAt w0 gp b (dupI d1 1 kk) (w7.setCell ⟨gp, 3, none⟩ (.slice A7 (ny + 1) c7)) from by
                        have hME := HL.out.extend (show Ext W (W.drew.alloc (.cells #[.int .u32 sq, .int .u32 sa, .int .i64 sf, .int .i64 sw, .slice As ns cs] 49)) from ((Ext.refl W).drew).alloc _)
                        have hyn := HYN.out
                        subst hyn
                        obtain ⟨L', h1, h2⟩ := hME.pushed (j := 1) (by omega) (more := [⟨sq, sa, sf, sw, sd⟩]) (ls1 := [(⟨sq, sa, sf, sw, sd⟩, .slice As ns cs)]) (k1 := 1) HVY.out rfl rfl (fun x hx => by obtain rfl := List.mem_singleton.1 hx; show World.ownsRow _ _ _ _ _ sd.length _; rw [HNS.out]; exact (((Ext.refl W).drew).alloc _).own HSX.out) (fun s hs => by obtain rfl := List.mem_singleton.1 hs; exact HSO.out) (fun x hx q hq j hj => by obtain rfl := List.mem_singleton.1 hx; exact HFX.out q hq j hj) (by simpa using ho7) hg7 ha7
                        refine ⟨L', ?_, by rw [h2]; exact HLB.out⟩
                        unfold dupI
                        rw [HYK.out]
                        exact h1)
                      clear ho7 hg7 ha7 n5 nf kt0 kt1
                      go_wp2_with fail
                      go_meet
                      exact ⟨by rw [HTV2.out], by rw [HTV2.out]; exact HFIN.out⟩
                  · have HTV2 := hide (show turnI d1 tk ⟨tkind, tn, tdata⟩ = (d1, tk) by rw [HTV.out, HYN.out, if_neg (by omega)])
                    have hI : ¬ ((ny : Int) < 60) := by omega
                    go_wp2_with fail
                    go_meet
                    exact ⟨by rw [HTV2.out], by rw [HTV2.out]; exact ⟨L, HL.out, HLB.out⟩⟩
                · obtain rfl : ny = 0 := by omega
                  have HTV2 := hide (show turnI d1 tk ⟨tkind, tn, tdata⟩ = (d1, tk) by rw [HTV.out, HYN.out, if_neg (by omega)])
                  go_wp2_with fail
                  go_meet
                  exact ⟨by rw [HTV2.out], by rw [HTV2.out]; exact ⟨L, HL.out, HLB.out⟩⟩
          · rcases h8 with rfl | rfl
            · as_aux_lemma =>
                have HTV := hide (show turnI d1 tk ⟨tkind, tn, tdata⟩ = (if 0 < (d1.y 0).length then getI d1 0 (pickN tn (d1.y 0).length) else d1, tk) by unfold turnI endOf; dsimp only; rw [HZ26.out, HZ8.out, if_neg (by omega), if_neg (by omega), if_neg (by omega), if_neg (by omega), if_pos (by omega)]; rfl)
                obtain ⟨L, hL, hLb⟩ := HP2.out
                have HL := hide hL
                have HLB := hide hLb
                have hway := hL.way 0 (by omega)
                obtain ⟨Ay, cy, hvy, hny, hcy, hnil⟩ := own_form hway
                have hyl : (d1.y 0).length ≤ 10000 := by have := HS.out.s.way 0 (by omega); omega
                have y0 : W.cell? ⟨gp, 2, none⟩ = some (.slice Ay (d1.y 0).length cy) := by rw [← hvy]; exact hL.box.cell 2
                have yf : W.frozen? ⟨gp, 2, none⟩ = false := hL.box.frozen 2
                have hll : (L.ls 0).length = (d1.y 0).length := by rw [← hL.segs 0 (by omega), List.length_map]
                rw [hvy] at hway
                obtain ⟨ny, hyn⟩ : ∃ x, (d1.y 0).length = x := ⟨_, rfl⟩
                rw [hyn] at y0 hny hyl hway hll
                have HVY := hide (show L.vy 0 = .slice Ay ny cy by rw [hvy, hyn])
                have HYN := hide hyn
                have HWAY := hide hway
                have HLL := hide hll
                have HNIL := hide hnil
                unfold maxLen at hcy
                clear hL hLb hvy hyn hll hnil
                by_cases hn0 : 0 < ny
                · have hdr := restZ_lo (tn.tdiv 2) ny (by omega)
                  have hdr2 := restZ_hi (tn.tdiv 2) ny (by omega)
                  obtain ⟨kk, hkk⟩ : ∃ x : Nat, restZ (tn.tdiv 2) ny = x := ⟨(restZ (tn.tdiv 2) ny).toNat, by omega⟩
                  have hkn : kk < ny := by omega
                  have HPK := hide (show pickN tn ny = kk by unfold pickN; rw [hkk]; rfl)
                  obtain ⟨q, hq⟩ : ∃ x, tn.tdiv 2 = x := ⟨_, rfl⟩
                  have hqb : -9223372036854775808 ≤ q ∧ q ≤ 9223372036854775807 := by
                    rw [← hq]
                    have h1 := hk2.1
                    have h2 := hk2.2
                    have e1 := Int.tdiv_eq_ediv (a := tn) (b := 2)
                    rw [e1, show Int.sign 2 = 1 from rfl]
                    split <;> omega
                  rw [hq] at hkk
                  have HRK := hide (fun dd => show Calls Try.prog 35 #[.int .i64 q, .int .i64 ny] (W.drewN dd) (fun e w' => e = .returned (.int .i64 (kk : Int)) ∧ W.drewN dd = w') from by rw [← hkk]; exact rest_any q ny _ hqb.1 hqb.2 (by omega) (by omega))
                  have hqw : IntKind.i64.wrap q = q := by rw [IntKind.wrap_i64]; omega
                  clear hdr hdr2 hkk hqb
                  have HTV2 := hide (show turnI d1 tk ⟨tkind, tn, tdata⟩ = (getI d1 0 kk, tk) by rw [HTV.out, HYN.out, if_pos hn0, HPK.out])
                  obtain ⟨gy, hgy, -⟩ := own_addr HWAY.out hn0
                  subst hgy
                  have hkl2 : kk < (L.ls 0).length := by rw [HLL.out]; exact hkn
                  have hrd := Reads.of_own HWAY.out
                  have r0 := Reads.elem segC_len hrd kk hkl2 (by omega) 0 (by omega) (u := .int .u32 (L.ls 0)[kk].1.seq) rfl
                  have r1 := Reads.elem segC_len hrd kk hkl2 (by omega) 1 (by omega) (u := .int .u32 (L.ls 0)[kk].1.ack) rfl
                  have r2 := Reads.elem segC_len hrd kk hkl2 (by omega) 2 (by omega) (u := .int .i64 (L.ls 0)[kk].1.fl) rfl
                  have r3 := Reads.elem segC_len hrd kk hkl2 (by omega) 3 (by omega) (u := .int .i64 (L.ls 0)[kk].1.wd) rfl
                  have r4 := Reads.elem segC_len hrd kk hkl2 (by omega) 4 (by omega) (u := (L.ls 0)[kk].2) rfl
                  have hxm : (L.ls 0)[kk] ∈ L.ls 0 := List.getElem_mem hkl2
                  have hyk : (d1.y 0)[kk]? = some (L.ls 0)[kk].1 := by rw [← HL.out.segs 0 (by omega), List.getElem?_map, List.getElem?_eq_getElem hkl2]; rfl
                  have hso : (L.ls 0)[kk].1.Ok := HL.out.sok 0 (by omega) _ (by rw [← HL.out.segs 0 (by omega)]; exact List.mem_map.2 ⟨_, hxm, rfl⟩)
                  have hsx := HL.out.data 0 (by omega) _ hxm
                  have hfx := HL.out.free 0 (by omega) _ hxm
                  obtain ⟨x, hx⟩ : ∃ x, (L.ls 0)[kk] = x := ⟨_, rfl⟩
                  rw [hx] at r0 r1 r2 r3 r4 hyk hso hsx hfx
                  obtain ⟨⟨sq, sa, sf, sw, sd⟩, sv⟩ := x
                  obtain ⟨As, cs, hsv, hns, hcs, -⟩ := own_form hsx
                  dsimp only at r0 r1 r2 r3 r4 hyk hso hsx hfx hsv hns
                  subst hsv
                  obtain ⟨ns, hns'⟩ : ∃ x, sd.length = x := ⟨_, rfl⟩
                  have hsx' : W.ownsRow w0.heap.size 5 1 (.slice As ns cs) ns (bytesV sd) := by rw [← hns']; exact hsx
                  rw [hns'] at r4 hfx
                  have HSX := hide hsx'
                  have HFX := hide hfx
                  have HSO := hide hso
                  have HYK := hide hyk
                  have hn32 : ns ≤ 32 := by rw [← hns']; exact hso.data
                  have y1 : W.cell? ⟨gy, kk * 5, none⟩ = some (.int .u32 sq) := by simpa using r0
                  have y2 : W.cell? ⟨gy, kk * 5 + 1, none⟩ = some (.int .u32 sa) := by simpa using r1
                  have y3 : W.cell? ⟨gy, kk * 5 + 2, none⟩ = some (.int .i64 sf) := by simpa using r2
                  have y4 : W.cell? ⟨gy, kk * 5 + 3, none⟩ = some (.int .i64 sw) := by simpa using r3
                  have y5 : W.cell? ⟨gy, kk * 5 + 4, none⟩ = some (.slice As ns cs) := by simpa using r4
                  clear r0 r1 r2 r3 r4 hxm hyk hso hsx hsx' hfx hx hns' hrd hns hcs
                  go_upto_region 28 with fail
                  go_quiet ((go_at_call 35; exact quiet_eq (HRK.out _)))
                  go_upto_region 29 with fail
                  have HXD := hide ((Ext.refl W).drewN nq)
                  have HL2 := hide (HL.out.extend HXD.out)
                  have HWAY2 := hide (HXD.out.own HWAY.out)
                  have HSX2 := hide (HXD.out.own HSX.out)
                  have x0 := HXD.out.cell y0
                  have xf := (HXD.out.frozen y0).trans yf
                  have x1 := HXD.out.cell y1
                  have x2 := HXD.out.cell y2
                  have x3 := HXD.out.cell y3
                  have x4 := HXD.out.cell y4
                  have x5 := HXD.out.cell y5
                  generalize W.drewN nq = V at *
                  clear y0 yf y1 y2 y3 y4 y5 b0 b1 b2 HRK HL HWAY HSX
                  have HL := HL2
                  have HWAY := HWAY2
                  have HSX := HSX2
                  have y0 := x0
                  have yf := xf
                  clear x0 xf HL2 HWAY2 HSX2
                  go_upto_region 30 with fail
                  have HBS := hide (Blk.new V 49 #[.int .u32 sq, .int .u32 sa, .int .i64 sf, .int .i64 sw, .slice As ns cs])
                  have HXQ := hide ((Ext.refl V).alloc (.cells #[.int .u32 sq, .int .u32 sa, .int .i64 sf, .int .i64 sw, .slice As ns cs] 49))
                  generalize V.alloc (.cells #[.int .u32 sq, .int .u32 sa, .int .i64 sf, .int .i64 sw, .slice As ns cs] 49) = W2 at *
                  obtain ⟨gs, hgs⟩ : ∃ x, V.heap.size = x := ⟨_, rfl⟩
                  rw [hgs] at HBS ⊢
                  have HGS := hide hgs
                  clear hgs x1 x2 x3 x4 x5
                  have HM2 := hide (HL.out.extend HXQ.out)
                  have HW2 := hide (HXQ.out.own HWAY.out)
                  have Y0 := HXQ.out.cell y0
                  have YF := (HXQ.out.frozen y0).trans yf
                  clear y0 yf
                  have hkw : IntKind.i64.wrap ((kk : Int) + 1) = (kk : Int) + 1 := by rw [IntKind.wrap_i64]; omega
                  rw [← opDel5_eq]
                  have hOp := opDel5_eq
                  go_region_held3 (fun _ => True) (trivial)
                    (first | (go_at_call 36; refine (delete_seg w0.heap.size gy ny cy kk (L.ls 0) _ (Ext.own (w := W2) (by ((repeat (first | with_reducible exact Ext.refl _ | with_reducible assumption | with_reducible refine Ext.alloc ?_ _ | with_reducible refine Ext.drew ?_ | with_reducible refine Ext.drewN ?_ _ | with_reducible refine Ext.setCell ?_ (by first | exact Nat.le_refl _ | assumption | (simp; done) | omega) _ | with_reducible refine Ext.trans ?_ (by with_reducible assumption))); done)) HW2.out) (segs_one (HM2.out.data 0 (by omega))) hkn).mono ?_; rintro r w7 ⟨rfl, ho7, hg7⟩; have n5 : w7.cell? ⟨gp, 2, none⟩ = some (.slice (some ⟨gy, 0, none⟩) ny cy) := hg7.cell (Ext.cell (w := W2) (by ((repeat (first | with_reducible exact Ext.refl _ | with_reducible assumption | with_reducible refine Ext.alloc ?_ _ | with_reducible refine Ext.drew ?_ | with_reducible refine Ext.drewN ?_ _ | with_reducible refine Ext.setCell ?_ (by first | exact Nat.le_refl _ | assumption | (simp; done) | omega) _ | with_reducible refine Ext.trans ?_ (by with_reducible assumption))); done)) Y0) (fun e => own_blk_ne HW2.out HM2.out.box (by decide) e.symm); have nf : w7.frozen? ⟨gp, 2, none⟩ = false := (Blk.grown (Blk.ext HM2.out.box (by ((repeat (first | with_reducible exact Ext.refl _ | with_reducible assumption | with_reducible refine Ext.alloc ?_ _ | with_reducible refine Ext.drew ?_ | with_reducible refine Ext.drewN ?_ _ | with_reducible refine Ext.setCell ?_ (by first | exact Nat.le_refl _ | assumption | (simp; done) | omega) _ | with_reducible refine Ext.trans ?_ (by with_reducible assumption))); done))) hg7 (fun e => own_blk_ne HW2.out HM2.out.box (by decide) e.symm)).frozen 2) | fail)
                  all_goals
                    obtain ⟨L8, hM8, hb8, hvo8, hvi8⟩ := HM2.out.deleted (j := 0) (by omega) HVY.out HYN.out hkn (by ((repeat (first | with_reducible exact Ext.refl _ | with_reducible assumption | with_reducible refine Ext.alloc ?_ _ | with_reducible refine Ext.drew ?_ | with_reducible refine Ext.drewN ?_ _ | with_reducible refine Ext.setCell ?_ (by first | exact Nat.le_refl _ | assumption | (simp; done) | omega) _ | with_reducible refine Ext.trans ?_ (by with_reducible assumption))); done)) ho7 hg7
                    have HFIN := hide (show PairAt w0 gp b (dropI d1 0 kk) (w7.setCell ⟨gp, 2, none⟩ (.slice (some ⟨gy, 0, none⟩) (ny - 1) cy)) from ⟨L8, hM8, by rw [hb8]; exact HLB.out⟩)
                    have HM8 := hide hM8
                    have HB8 := hide hb8
                    have HVO8 := hide hvo8
                    have HVI8 := hide hvi8
                    have HG7 := hide (grown_trans' (grown_of_ext (by ((repeat (first | with_reducible exact Ext.refl _ | with_reducible assumption | with_reducible refine Ext.alloc ?_ _ | with_reducible refine Ext.drew ?_ | with_reducible refine Ext.drewN ?_ _ | with_reducible refine Ext.setCell ?_ (by first | exact Nat.le_refl _ | assumption | (simp; done) | omega) _ | with_reducible refine Ext.trans ?_ (by with_reducible assumption))); done)) _) hg7 : World.grownBy W2 w7 (some gy))
                    clear ho7 hg7 hM8 hb8 hvo8 hvi8
                    go_upto_region 31 with fail
                    have hlt1 : gy < gs := by have h1 := (HWAY.out.lt gy rfl).2; have h2 := HGS.out; omega
                    have hlt2 : gp < gs := by have h1 := HL.out.box.lt; have h2 := HGS.out; omega
                    have HBS8 := hide (Blk.far (Blk.grown HBS.out HG7.out (fun e => by injection e with e; omega)) (p := ⟨gp, 2, none⟩) (by dsimp only; omega) (.slice (some ⟨gy, 0, none⟩) (ny - 1) cy))
                    have hsx7 : w7.ownsRow w0.heap.size 5 1 (.slice As ns cs) ns (bytesV sd) := own_of_keep (HXQ.out.own HSX.out) (fun q hv => HG7.out.block q ((HXQ.out.own HSX.out).lt q hv).2 (fun e => own_ne_own (HXQ.out.own HSX.out) HW2.out (by decide) hv e.symm))
                    have hbox7 : Blk w7 gp 43 _ := HM2.out.box.grown HG7.out (fun e => own_blk_ne HW2.out HM2.out.box (by decide) e.symm)
                    have HSX8 := hide (own_far (p := ⟨gp, 2, none⟩) hsx7 (own_blk_ne hsx7 hbox7 (by decide)) (.slice (some ⟨gy, 0, none⟩) (ny - 1) cy))
                    have HFX8 := hide (show ∀ q, Value.ownBlock (.slice As ns cs) = some q → ¬ foot (L8.b 0) (L8.vo 0) (L8.vi 0) q from by rw [HB8.out, HVO8.out, HVI8.out]; exact fun q hq => HFX.out q hq 0 (by omega))
                    clear hsx7 hbox7 HBS HSX HFX HWAY HW2 HM2 HL Y0 YF n5 nf
                    generalize w7.setCell ⟨gp, 2, none⟩ (.slice (some ⟨gy, 0, none⟩) (ny - 1) cy) = w8 at *
                    have p0 : w8.cell? ⟨gp, 0, none⟩ = some (.pointer (some ⟨L8.b 0, 0, none⟩)) := HM8.out.box.cell 0
                    have z0 : w8.cell? ⟨gs, 0, none⟩ = some (.int .u32 sq) := HBS8.out.cell 0
                    have z1 : w8.cell? ⟨gs, 1, none⟩ = some (.int .u32 sa) := HBS8.out.cell 1
                    have z2 : w8.cell? ⟨gs, 2, none⟩ = some (.int .i64 sf) := HBS8.out.cell 2
                    have z3 : w8.cell? ⟨gs, 3, none⟩ = some (.int .i64 sw) := HBS8.out.cell 3
                    have z4 : w8.cell? ⟨gs, 4, none⟩ = some (.slice As ns cs) := HBS8.out.cell 4
                    have HOK8 := hide (show (d1.e 0).Ok from HM8.out.ok 0 (by omega))
                    have HCOME := hide (fun (W' : World) (hx : Ext w8 W') => show Calls Try.prog 19 #[.pointer (some ⟨L8.b 0, 0, none⟩), segV sq sa sf sw (.slice As ns cs)] W' (fun r w9 => Ext w8 W' ∧ EndRet W' (L8.b 0) (L8.vo 0) (L8.vi 0) (.int .i64 (comeN (d1.e 0))) (comeE (d1.e 0) sq sa sf sw sd) r w9) from
                      (come_any W' (L8.b 0) (d1.e 0) (L8.vo 0) (L8.vi 0) sq sa sf sw As ns cs sd ((HM8.out.end_ 0 (by omega)).ext hx) HOK8.out HSO.out.seq HSO.out.ack (by have := HSO.out.fl; dsimp only at this; omega) (by have := HSO.out.wd; dsimp only at this; omega) hn32 (own_mono (hx.own HSX8.out) (Nat.zero_le _)) HFX8.out).mono (fun r w9 h => ⟨hx, h⟩))
                    obtain ⟨g9, hg9⟩ : ∃ x, L8.b 0 = x := ⟨_, rfl⟩
                    rw [hg9] at p0 HCOME
                    have HG9 := hide hg9
                    clear hg9
                    go_still_tail 7, (by kernel_rfl)
                    go_wp2_with fail
                    refine (HCOME.out _ (by first | exact (Ext.refl w8).drew | exact (Ext.refl w8).drewN _ | exact Ext.refl w8)).mono ?_
                    rintro r w9 ⟨hxw, rfl, hop⟩
                    have HFIN2 := hide (show PairAt w0 gp b (getI d1 0 kk) w9 from by
                      rw [← HG9.out] at hop
                      obtain ⟨L9, h1, h2, -⟩ := (HM8.out.extend hxw).endOp (i := 0) (by omega) (comeS_ok HOK8.out HSO.out) hop
                      refine ⟨L9, ?_, by rw [h2, HB8.out]; exact HLB.out⟩
                      unfold getI
                      rw [HYK.out]
                      exact h1)
                    clear hxw hop
                    go_wp2_with fail
                    go_meet
                    exact ⟨by rw [HTV2.out], by rw [HTV2.out]; exact HFIN2.out⟩
                · obtain rfl : ny = 0 := by omega
                  have HTV2 := hide (show turnI d1 tk ⟨tkind, tn, tdata⟩ = (d1, tk) by rw [HTV.out, HYN.out, if_neg (by omega)])
                  go_wp2_with fail
                  go_meet
                  exact ⟨by rw [HTV2.out], by rw [HTV2.out]; exact ⟨L, HL.out, HLB.out⟩⟩
            · as_aux_lemma =>
                have HTV := hide (show turnI d1 tk ⟨tkind, tn, tdata⟩ = (if 0 < (d1.y 1).length then getI d1 1 (pickN tn (d1.y 1).length) else d1, tk) by unfold turnI endOf; dsimp only; rw [HZ26.out, HZ8.out, if_neg (by omega), if_neg (by omega), if_neg (by omega), if_neg (by omega), if_pos (by omega)]; rfl)
                obtain ⟨L, hL, hLb⟩ := HP2.out
                have HL := hide hL
                have HLB := hide hLb
                have hway := hL.way 1 (by omega)
                obtain ⟨Ay, cy, hvy, hny, hcy, hnil⟩ := own_form hway
                have hyl : (d1.y 1).length ≤ 10000 := by have := HS.out.s.way 1 (by omega); omega
                have y0 : W.cell? ⟨gp, 3, none⟩ = some (.slice Ay (d1.y 1).length cy) := by rw [← hvy]; exact hL.box.cell 3
                have yf : W.frozen? ⟨gp, 3, none⟩ = false := hL.box.frozen 3
                have hll : (L.ls 1).length = (d1.y 1).length := by rw [← hL.segs 1 (by omega), List.length_map]
                rw [hvy] at hway
                obtain ⟨ny, hyn⟩ : ∃ x, (d1.y 1).length = x := ⟨_, rfl⟩
                rw [hyn] at y0 hny hyl hway hll
                have HVY := hide (show L.vy 1 = .slice Ay ny cy by rw [hvy, hyn])
                have HYN := hide hyn
                have HWAY := hide hway
                have HLL := hide hll
                have HNIL := hide hnil
                unfold maxLen at hcy
                clear hL hLb hvy hyn hll hnil
                by_cases hn0 : 0 < ny
                · have hdr := restZ_lo (tn.tdiv 2) ny (by omega)
                  have hdr2 := restZ_hi (tn.tdiv 2) ny (by omega)
                  obtain ⟨kk, hkk⟩ : ∃ x : Nat, restZ (tn.tdiv 2) ny = x := ⟨(restZ (tn.tdiv 2) ny).toNat, by omega⟩
                  have hkn : kk < ny := by omega
                  have HPK := hide (show pickN tn ny = kk by unfold pickN; rw [hkk]; rfl)
                  obtain ⟨q, hq⟩ : ∃ x, tn.tdiv 2 = x := ⟨_, rfl⟩
                  have hqb : -9223372036854775808 ≤ q ∧ q ≤ 9223372036854775807 := by
                    rw [← hq]
                    have h1 := hk2.1
                    have h2 := hk2.2
                    have e1 := Int.tdiv_eq_ediv (a := tn) (b := 2)
                    rw [e1, show Int.sign 2 = 1 from rfl]
                    split <;> omega
                  rw [hq] at hkk
                  have HRK := hide (fun dd => show Calls Try.prog 35 #[.int .i64 q, .int .i64 ny] (W.drewN dd) (fun e w' => e = .returned (.int .i64 (kk : Int)) ∧ W.drewN dd = w') from by rw [← hkk]; exact rest_any q ny _ hqb.1 hqb.2 (by omega) (by omega))
                  have hqw : IntKind.i64.wrap q = q := by rw [IntKind.wrap_i64]; omega
                  clear hdr hdr2 hkk hqb
                  have HTV2 := hide (show turnI d1 tk ⟨tkind, tn, tdata⟩ = (getI d1 1 kk, tk) by rw [HTV.out, HYN.out, if_pos hn0, HPK.out])
                  obtain ⟨gy, hgy, -⟩ := own_addr HWAY.out hn0
                  subst hgy
                  have hkl2 : kk < (L.ls 1).length := by rw [HLL.out]; exact hkn
                  have hrd := Reads.of_own HWAY.out
                  have r0 := Reads.elem segC_len hrd kk hkl2 (by omega) 0 (by omega) (u := .int .u32 (L.ls 1)[kk].1.seq) rfl
                  have r1 := Reads.elem segC_len hrd kk hkl2 (by omega) 1 (by omega) (u := .int .u32 (L.ls 1)[kk].1.ack) rfl
                  have r2 := Reads.elem segC_len hrd kk hkl2 (by omega) 2 (by omega) (u := .int .i64 (L.ls 1)[kk].1.fl) rfl
                  have r3 := Reads.elem segC_len hrd kk hkl2 (by omega) 3 (by omega) (u := .int .i64 (L.ls 1)[kk].1.wd) rfl
                  have r4 := Reads.elem segC_len hrd kk hkl2 (by omega) 4 (by omega) (u := (L.ls 1)[kk].2) rfl
                  have hxm : (L.ls 1)[kk] ∈ L.ls 1 := List.getElem_mem hkl2
                  have hyk : (d1.y 1)[kk]? = some (L.ls 1)[kk].1 := by rw [← HL.out.segs 1 (by omega), List.getElem?_map, List.getElem?_eq_getElem hkl2]; rfl
                  have hso : (L.ls 1)[kk].1.Ok := HL.out.sok 1 (by omega) _ (by rw [← HL.out.segs 1 (by omega)]; exact List.mem_map.2 ⟨_, hxm, rfl⟩)
                  have hsx := HL.out.data 1 (by omega) _ hxm
                  have hfx := HL.out.free 1 (by omega) _ hxm
                  obtain ⟨x, hx⟩ : ∃ x, (L.ls 1)[kk] = x := ⟨_, rfl⟩
                  rw [hx] at r0 r1 r2 r3 r4 hyk hso hsx hfx
                  obtain ⟨⟨sq, sa, sf, sw, sd⟩, sv⟩ := x
                  obtain ⟨As, cs, hsv, hns, hcs, -⟩ := own_form hsx
                  dsimp only at r0 r1 r2 r3 r4 hyk hso hsx hfx hsv hns
                  subst hsv
                  obtain ⟨ns, hns'⟩ : ∃ x, sd.length = x := ⟨_, rfl⟩
                  have hsx' : W.ownsRow w0.heap.size 5 1 (.slice As ns cs) ns (bytesV sd) := by rw [← hns']; exact hsx
                  rw [hns'] at r4 hfx
                  have HSX := hide hsx'
                  have HFX := hide hfx
                  have HSO := hide hso
                  have HYK := hide hyk
                  have hn32 : ns ≤ 32 := by rw [← hns']; exact hso.data
                  have y1 : W.cell? ⟨gy, kk * 5, none⟩ = some (.int .u32 sq) := by simpa using r0
                  have y2 : W.cell? ⟨gy, kk * 5 + 1, none⟩ = some (.int .u32 sa) := by simpa using r1
                  have y3 : W.cell? ⟨gy, kk * 5 + 2, none⟩ = some (.int .i64 sf) := by simpa using r2
                  have y4 : W.cell? ⟨gy, kk * 5 + 3, none⟩ = some (.int .i64 sw) := by simpa using r3
                  have y5 : W.cell? ⟨gy, kk * 5 + 4, none⟩ = some (.slice As ns cs) := by simpa using r4
                  clear r0 r1 r2 r3 r4 hxm hyk hso hsx hsx' hfx hx hns' hrd hns hcs
                  go_upto_region 28 with fail
                  go_quiet ((go_at_call 35; exact quiet_eq (HRK.out _)))
                  go_upto_region 29 with fail
                  have HXD := hide ((Ext.refl W).drewN nq)
                  have HL2 := hide (HL.out.extend HXD.out)
                  have HWAY2 := hide (HXD.out.own HWAY.out)
                  have HSX2 := hide (HXD.out.own HSX.out)
                  have x0 := HXD.out.cell y0
                  have xf := (HXD.out.frozen y0).trans yf
                  have x1 := HXD.out.cell y1
                  have x2 := HXD.out.cell y2
                  have x3 := HXD.out.cell y3
                  have x4 := HXD.out.cell y4
                  have x5 := HXD.out.cell y5
                  generalize W.drewN nq = V at *
                  clear y0 yf y1 y2 y3 y4 y5 b0 b1 b2 HRK HL HWAY HSX
                  have HL := HL2
                  have HWAY := HWAY2
                  have HSX := HSX2
                  have y0 := x0
                  have yf := xf
                  clear x0 xf HL2 HWAY2 HSX2
                  go_upto_region 30 with fail
                  have HBS := hide (Blk.new V 49 #[.int .u32 sq, .int .u32 sa, .int .i64 sf, .int .i64 sw, .slice As ns cs])
                  have HXQ := hide ((Ext.refl V).alloc (.cells #[.int .u32 sq, .int .u32 sa, .int .i64 sf, .int .i64 sw, .slice As ns cs] 49))
                  generalize V.alloc (.cells #[.int .u32 sq, .int .u32 sa, .int .i64 sf, .int .i64 sw, .slice As ns cs] 49) = W2 at *
                  obtain ⟨gs, hgs⟩ : ∃ x, V.heap.size = x := ⟨_, rfl⟩
                  rw [hgs] at HBS ⊢
                  have HGS := hide hgs
                  clear hgs x1 x2 x3 x4 x5
                  have HM2 := hide (HL.out.extend HXQ.out)
                  have HW2 := hide (HXQ.out.own HWAY.out)
                  have Y0 := HXQ.out.cell y0
                  have YF := (HXQ.out.frozen y0).trans yf
                  clear y0 yf
                  have hkw : IntKind.i64.wrap ((kk : Int) + 1) = (kk : Int) + 1 := by rw [IntKind.wrap_i64]; omega
                  rw [← opDel5_eq]
                  have hOp := opDel5_eq
                  go_region_held3 (fun _ => True) (trivial)
                    (first | (go_at_call 36; refine (delete_seg w0.heap.size gy ny cy kk (L.ls 1) _ (Ext.own (w := W2) (by ((repeat (first | with_reducible exact Ext.refl _ | with_reducible assumption | with_reducible refine Ext.alloc ?_ _ | with_reducible refine Ext.drew ?_ | with_reducible refine Ext.drewN ?_ _ | with_reducible refine Ext.setCell ?_ (by first | exact Nat.le_refl _ | assumption | (simp; done) | omega) _ | with_reducible refine Ext.trans ?_ (by with_reducible assumption))); done)) HW2.out) (segs_one (HM2.out.data 1 (by omega))) hkn).mono ?_; rintro r w7 ⟨rfl, ho7, hg7⟩; have n5 : w7.cell? ⟨gp, 3, none⟩ = some (.slice (some ⟨gy, 0, none⟩) ny cy) := hg7.cell (Ext.cell (w := W2) (by ((repeat (first | with_reducible exact Ext.refl _ | with_reducible assumption | with_reducible refine Ext.alloc ?_ _ | with_reducible refine Ext.drew ?_ | with_reducible refine Ext.drewN ?_ _ | with_reducible refine Ext.setCell ?_ (by first | exact Nat.le_refl _ | assumption | (simp; done) | omega) _ | with_reducible refine Ext.trans ?_ (by with_reducible assumption))); done)) Y0) (fun e => own_blk_ne HW2.out HM2.out.box (by decide) e.symm); have nf : w7.frozen? ⟨gp, 3, none⟩ = false := (Blk.grown (Blk.ext HM2.out.box (by ((repeat (first | with_reducible exact Ext.refl _ | with_reducible assumption | with_reducible refine Ext.alloc ?_ _ | with_reducible refine Ext.drew ?_ | with_reducible refine Ext.drewN ?_ _ | with_reducible refine Ext.setCell ?_ (by first | exact Nat.le_refl _ | assumption | (simp; done) | omega) _ | with_reducible refine Ext.trans ?_ (by with_reducible assumption))); done))) hg7 (fun e => own_blk_ne HW2.out HM2.out.box (by decide) e.symm)).frozen 3) | fail)
                  all_goals
                    obtain ⟨L8, hM8, hb8, hvo8, hvi8⟩ := HM2.out.deleted (j := 1) (by omega) HVY.out HYN.out hkn (by ((repeat (first | with_reducible exact Ext.refl _ | with_reducible assumption | with_reducible refine Ext.alloc ?_ _ | with_reducible refine Ext.drew ?_ | with_reducible refine Ext.drewN ?_ _ | with_reducible refine Ext.setCell ?_ (by first | exact Nat.le_refl _ | assumption | (simp; done) | omega) _ | with_reducible refine Ext.trans ?_ (by with_reducible assumption))); done)) ho7 hg7
                    have HFIN := hide (show PairAt w0 gp b (dropI d1 1 kk) (w7.setCell ⟨gp, 3, none⟩ (.slice (some ⟨gy, 0, none⟩) (ny - 1) cy)) from ⟨L8, hM8, by rw [hb8]; exact HLB.out⟩)
                    have HM8 := hide hM8
                    have HB8 := hide hb8
                    have HVO8 := hide hvo8
                    have HVI8 := hide hvi8
                    have HG7 := hide (grown_trans' (grown_of_ext (by ((repeat (first | with_reducible exact Ext.refl _ | with_reducible assumption | with_reducible refine Ext.alloc ?_ _ | with_reducible refine Ext.drew ?_ | with_reducible refine Ext.drewN ?_ _ | with_reducible refine Ext.setCell ?_ (by first | exact Nat.le_refl _ | assumption | (simp; done) | omega) _ | with_reducible refine Ext.trans ?_ (by with_reducible assumption))); done)) _) hg7 : World.grownBy W2 w7 (some gy))
                    clear ho7 hg7 hM8 hb8 hvo8 hvi8
                    go_upto_region 31 with fail
                    have hlt1 : gy < gs := by have h1 := (HWAY.out.lt gy rfl).2; have h2 := HGS.out; omega
                    have hlt2 : gp < gs := by have h1 := HL.out.box.lt; have h2 := HGS.out; omega
                    have HBS8 := hide (Blk.far (Blk.grown HBS.out HG7.out (fun e => by injection e with e; omega)) (p := ⟨gp, 3, none⟩) (by dsimp only; omega) (.slice (some ⟨gy, 0, none⟩) (ny - 1) cy))
                    have hsx7 : w7.ownsRow w0.heap.size 5 1 (.slice As ns cs) ns (bytesV sd) := own_of_keep (HXQ.out.own HSX.out) (fun q hv => HG7.out.block q ((HXQ.out.own HSX.out).lt q hv).2 (fun e => own_ne_own (HXQ.out.own HSX.out) HW2.out (by decide) hv e.symm))
                    have hbox7 : Blk w7 gp 43 _ := HM2.out.box.grown HG7.out (fun e => own_blk_ne HW2.out HM2.out.box (by decide) e.symm)
                    have HSX8 := hide (own_far (p := ⟨gp, 3, none⟩) hsx7 (own_blk_ne hsx7 hbox7 (by decide)) (.slice (some ⟨gy, 0, none⟩) (ny - 1) cy))
                    have HFX8 := hide (show ∀ q, Value.ownBlock (.slice As ns cs) = some q → ¬ foot (L8.b 1) (L8.vo 1) (L8.vi 1) q from by rw [HB8.out, HVO8.out, HVI8.out]; exact fun q hq => HFX.out q hq 1 (by omega))
                    clear hsx7 hbox7 HBS HSX HFX HWAY HW2 HM2 HL Y0 YF n5 nf
                    generalize w7.setCell ⟨gp, 3, none⟩ (.slice (some ⟨gy, 0, none⟩) (ny - 1) cy) = w8 at *
                    have p0 : w8.cell? ⟨gp, 1, none⟩ = some (.pointer (some ⟨L8.b 1, 0, none⟩)) := HM8.out.box.cell 1
                    have z0 : w8.cell? ⟨gs, 0, none⟩ = some (.int .u32 sq) := HBS8.out.cell 0
                    have z1 : w8.cell? ⟨gs, 1, none⟩ = some (.int .u32 sa) := HBS8.out.cell 1
                    have z2 : w8.cell? ⟨gs, 2, none⟩ = some (.int .i64 sf) := HBS8.out.cell 2
                    have z3 : w8.cell? ⟨gs, 3, none⟩ = some (.int .i64 sw) := HBS8.out.cell 3
                    have z4 : w8.cell? ⟨gs, 4, none⟩ = some (.slice As ns cs) := HBS8.out.cell 4
                    have HOK8 := hide (show (d1.e 1).Ok from HM8.out.ok 1 (by omega))
                    have HCOME := hide (fun (W' : World) (hx : Ext w8 W') => show Calls Try.prog 19 #[.pointer (some ⟨L8.b 1, 0, none⟩), segV sq sa sf sw (.slice As ns cs)] W' (fun r w9 => Ext w8 W' ∧ EndRet W' (L8.b 1) (L8.vo 1) (L8.vi 1) (.int .i64 (comeN (d1.e 1))) (comeE (d1.e 1) sq sa sf sw sd) r w9) from
                      (come_any W' (L8.b 1) (d1.e 1) (L8.vo 1) (L8.vi 1) sq sa sf sw As ns cs sd ((HM8.out.end_ 1 (by omega)).ext hx) HOK8.out HSO.out.seq HSO.out.ack (by have := HSO.out.fl; dsimp only at this; omega) (by have := HSO.out.wd; dsimp only at this; omega) hn32 (own_mono (hx.own HSX8.out) (Nat.zero_le _)) HFX8.out).mono (fun r w9 h => ⟨hx, h⟩))
                    obtain ⟨g9, hg9⟩ : ∃ x, L8.b 1 = x := ⟨_, rfl⟩
                    rw [hg9] at p0 HCOME
                    have HG9 := hide hg9
                    clear hg9
                    go_still_tail 7, (by kernel_rfl)
                    go_wp2_with fail
                    refine (HCOME.out _ (by first | exact (Ext.refl w8).drew | exact (Ext.refl w8).drewN _ | exact Ext.refl w8)).mono ?_
                    rintro r w9 ⟨hxw, rfl, hop⟩
                    have HFIN2 := hide (show PairAt w0 gp b (getI d1 1 kk) w9 from by
                      rw [← HG9.out] at hop
                      obtain ⟨L9, h1, h2, -⟩ := (HM8.out.extend hxw).endOp (i := 1) (by omega) (comeS_ok HOK8.out HSO.out) hop
                      refine ⟨L9, ?_, by rw [h2, HB8.out]; exact HLB.out⟩
                      unfold getI
                      rw [HYK.out]
                      exact h1)
                    clear hxw hop
                    go_wp2_with fail
                    go_meet
                    exact ⟨by rw [HTV2.out], by rw [HTV2.out]; exact HFIN2.out⟩
                · obtain rfl : ny = 0 := by omega
                  have HTV2 := hide (show turnI d1 tk ⟨tkind, tn, tdata⟩ = (d1, tk) by rw [HTV.out, HYN.out, if_neg (by omega)])
                  go_wp2_with fail
                  go_meet
                  exact ⟨by rw [HTV2.out], by rw [HTV2.out]; exact ⟨L, HL.out, HLB.out⟩⟩
          · rcases h8 with rfl | rfl
            · as_aux_lemma =>
                have HTV := hide (show turnI d1 tk ⟨tkind, tn, tdata⟩ = (if 0 < (d1.y 0).length then getI d1 0 (pickN tn (d1.y 0).length) else d1, tk) by unfold turnI endOf; dsimp only; rw [HZ26.out, HZ8.out, if_neg (by omega), if_neg (by omega), if_neg (by omega), if_neg (by omega), if_pos (by omega)]; rfl)
                obtain ⟨L, hL, hLb⟩ := HP2.out
                have HL := hide hL
                have HLB := hide hLb
                have hway := hL.way 0 (by omega)
                obtain ⟨Ay, cy, hvy, hny, hcy, hnil⟩ := own_form hway
                have hyl : (d1.y 0).length ≤ 10000 := by have := HS.out.s.way 0 (by omega); omega
                have y0 : W.cell? ⟨gp, 2, none⟩ = some (.slice Ay (d1.y 0).length cy) := by rw [← hvy]; exact hL.box.cell 2
                have yf : W.frozen? ⟨gp, 2, none⟩ = false := hL.box.frozen 2
                have hll : (L.ls 0).length = (d1.y 0).length := by rw [← hL.segs 0 (by omega), List.length_map]
                rw [hvy] at hway
                obtain ⟨ny, hyn⟩ : ∃ x, (d1.y 0).length = x := ⟨_, rfl⟩
                rw [hyn] at y0 hny hyl hway hll
                have HVY := hide (show L.vy 0 = .slice Ay ny cy by rw [hvy, hyn])
                have HYN := hide hyn
                have HWAY := hide hway
                have HLL := hide hll
                have HNIL := hide hnil
                unfold maxLen at hcy
                clear hL hLb hvy hyn hll hnil
                by_cases hn0 : 0 < ny
                · have hdr := restZ_lo (tn.tdiv 2) ny (by omega)
                  have hdr2 := restZ_hi (tn.tdiv 2) ny (by omega)
                  obtain ⟨kk, hkk⟩ : ∃ x : Nat, restZ (tn.tdiv 2) ny = x := ⟨(restZ (tn.tdiv 2) ny).toNat, by omega⟩
                  have hkn : kk < ny := by omega
                  have HPK := hide (show pickN tn ny = kk by unfold pickN; rw [hkk]; rfl)
                  obtain ⟨q, hq⟩ : ∃ x, tn.tdiv 2 = x := ⟨_, rfl⟩
                  have hqb : -9223372036854775808 ≤ q ∧ q ≤ 9223372036854775807 := by
                    rw [← hq]
                    have h1 := hk2.1
                    have h2 := hk2.2
                    have e1 := Int.tdiv_eq_ediv (a := tn) (b := 2)
                    rw [e1, show Int.sign 2 = 1 from rfl]
                    split <;> omega
                  rw [hq] at hkk
                  have HRK := hide (fun dd => show Calls Try.prog 35 #[.int .i64 q, .int .i64 ny] (W.drewN dd) (fun e w' => e = .returned (.int .i64 (kk : Int)) ∧ W.drewN dd = w') from by rw [← hkk]; exact rest_any q ny _ hqb.1 hqb.2 (by omega) (by omega))
                  have hqw : IntKind.i64.wrap q = q := by rw [IntKind.wrap_i64]; omega
                  clear hdr hdr2 hkk hqb
                  have HTV2 := hide (show turnI d1 tk ⟨tkind, tn, tdata⟩ = (getI d1 0 kk, tk) by rw [HTV.out, HYN.out, if_pos hn0, HPK.out])
                  obtain ⟨gy, hgy, -⟩ := own_addr HWAY.out hn0
                  subst hgy
                  have hkl2 : kk < (L.ls 0).length := by rw [HLL.out]; exact hkn
                  have hrd := Reads.of_own HWAY.out
                  have r0 := Reads.elem segC_len hrd kk hkl2 (by omega) 0 (by omega) (u := .int .u32 (L.ls 0)[kk].1.seq) rfl
                  have r1 := Reads.elem segC_len hrd kk hkl2 (by omega) 1 (by omega) (u := .int .u32 (L.ls 0)[kk].1.ack) rfl
                  have r2 := Reads.elem segC_len hrd kk hkl2 (by omega) 2 (by omega) (u := .int .i64 (L.ls 0)[kk].1.fl) rfl
                  have r3 := Reads.elem segC_len hrd kk hkl2 (by omega) 3 (by omega) (u := .int .i64 (L.ls 0)[kk].1.wd) rfl
                  have r4 := Reads.elem segC_len hrd kk hkl2 (by omega) 4 (by omega) (u := (L.ls 0)[kk].2) rfl
                  have hxm : (L.ls 0)[kk] ∈ L.ls 0 := List.getElem_mem hkl2
                  have hyk : (d1.y 0)[kk]? = some (L.ls 0)[kk].1 := by rw [← HL.out.segs 0 (by omega), List.getElem?_map, List.getElem?_eq_getElem hkl2]; rfl
                  have hso : (L.ls 0)[kk].1.Ok := HL.out.sok 0 (by omega) _ (by rw [← HL.out.segs 0 (by omega)]; exact List.mem_map.2 ⟨_, hxm, rfl⟩)
                  have hsx := HL.out.data 0 (by omega) _ hxm
                  have hfx := HL.out.free 0 (by omega) _ hxm
                  obtain ⟨x, hx⟩ : ∃ x, (L.ls 0)[kk] = x := ⟨_, rfl⟩
                  rw [hx] at r0 r1 r2 r3 r4 hyk hso hsx hfx
                  obtain ⟨⟨sq, sa, sf, sw, sd⟩, sv⟩ := x
                  obtain ⟨As, cs, hsv, hns, hcs, -⟩ := own_form hsx
                  dsimp only at r0 r1 r2 r3 r4 hyk hso hsx hfx hsv hns
                  subst hsv
                  obtain ⟨ns, hns'⟩ : ∃ x, sd.length = x := ⟨_, rfl⟩
                  have hsx' : W.ownsRow w0.heap.size 5 1 (.slice As ns cs) ns (bytesV sd) := by rw [← hns']; exact hsx
                  rw [hns'] at r4 hfx
                  have HSX := hide hsx'
                  have HFX := hide hfx
                  have HSO := hide hso
                  have HYK := hide hyk
                  have hn32 : ns ≤ 32 := by rw [← hns']; exact hso.data
                  have y1 : W.cell? ⟨gy, kk * 5, none⟩ = some (.int .u32 sq) := by simpa using r0
                  have y2 : W.cell? ⟨gy, kk * 5 + 1, none⟩ = some (.int .u32 sa) := by simpa using r1
                  have y3 : W.cell? ⟨gy, kk * 5 + 2, none⟩ = some (.int .i64 sf) := by simpa using r2
                  have y4 : W.cell? ⟨gy, kk * 5 + 3, none⟩ = some (.int .i64 sw) := by simpa using r3
                  have y5 : W.cell? ⟨gy, kk * 5 + 4, none⟩ = some (.slice As ns cs) := by simpa using r4
                  clear r0 r1 r2 r3 r4 hxm hyk hso hsx hsx' hfx hx hns' hrd hns hcs
                  go_upto_region 28 with fail
                  go_quiet ((go_at_call 35; exact quiet_eq (HRK.out _)))
                  go_upto_region 29 with fail
                  have HXD := hide ((Ext.refl W).drewN nq)
                  have HL2 := hide (HL.out.extend HXD.out)
                  have HWAY2 := hide (HXD.out.own HWAY.out)
                  have HSX2 := hide (HXD.out.own HSX.out)
                  have x0 := HXD.out.cell y0
                  have xf := (HXD.out.frozen y0).trans yf
                  have x1 := HXD.out.cell y1
                  have x2 := HXD.out.cell y2
                  have x3 := HXD.out.cell y3
                  have x4 := HXD.out.cell y4
                  have x5 := HXD.out.cell y5
                  generalize W.drewN nq = V at *
                  clear y0 yf y1 y2 y3 y4 y5 b0 b1 b2 HRK HL HWAY HSX
                  have HL := HL2
                  have HWAY := HWAY2
                  have HSX := HSX2
                  have y0 := x0
                  have yf := xf
                  clear x0 xf HL2 HWAY2 HSX2
                  go_upto_region 30 with fail
                  have HBS := hide (Blk.new V 49 #[.int .u32 sq, .int .u32 sa, .int .i64 sf, .int .i64 sw, .slice As ns cs])
                  have HXQ := hide ((Ext.refl V).alloc (.cells #[.int .u32 sq, .int .u32 sa, .int .i64 sf, .int .i64 sw, .slice As ns cs] 49))
                  generalize V.alloc (.cells #[.int .u32 sq, .int .u32 sa, .int .i64 sf, .int .i64 sw, .slice As ns cs] 49) = W2 at *
                  obtain ⟨gs, hgs⟩ : ∃ x, V.heap.size = x := ⟨_, rfl⟩
                  rw [hgs] at HBS ⊢
                  have HGS := hide hgs
                  clear hgs x1 x2 x3 x4 x5
                  have HM2 := hide (HL.out.extend HXQ.out)
                  have HW2 := hide (HXQ.out.own HWAY.out)
                  have Y0 := HXQ.out.cell y0
                  have YF := (HXQ.out.frozen y0).trans yf
                  clear y0 yf
                  have hkw : IntKind.i64.wrap ((kk : Int) + 1) = (kk : Int) + 1 := by rw [IntKind.wrap_i64]; omega
                  rw [← opDel5_eq]
                  have hOp := opDel5_eq
                  go_region_held3 (fun _ => True) (trivial)
                    (first | (go_at_call 36; refine (delete_seg w0.heap.size gy ny cy kk (L.ls 0) _ (Ext.own (w := W2) (by ((repeat (first | with_reducible exact Ext.refl _ | with_reducible assumption | with_reducible refine Ext.alloc ?_ _ | with_reducible refine Ext.drew ?_ | with_reducible refine Ext.drewN ?_ _ | with_reducible refine Ext.setCell ?_ (by first | exact Nat.le_refl _ | assumption | (simp; done) | omega) _ | with_reducible refine Ext.trans ?_ (by with_reducible assumption))); done)) HW2.out) (segs_one (HM2.out.data 0 (by omega))) hkn).mono ?_; rintro r w7 ⟨rfl, ho7, hg7⟩; have n5 : w7.cell? ⟨gp, 2, none⟩ = some (.slice (some ⟨gy, 0, none⟩) ny cy) := hg7.cell (Ext.cell (w := W2) (by ((repeat (first | with_reducible exact Ext.refl _ | with_reducible assumption | with_reducible refine Ext.alloc ?_ _ | with_reducible refine Ext.drew ?_ | with_reducible refine Ext.drewN ?_ _ | with_reducible refine Ext.setCell ?_ (by first | exact Nat.le_refl _ | assumption | (simp; done) | omega) _ | with_reducible refine Ext.trans ?_ (by with_reducible assumption))); done)) Y0) (fun e => own_blk_ne HW2.out HM2.out.box (by decide) e.symm); have nf : w7.frozen? ⟨gp, 2, none⟩ = false := (Blk.grown (Blk.ext HM2.out.box (by ((repeat (first | with_reducible exact Ext.refl _ | with_reducible assumption | with_reducible refine Ext.alloc ?_ _ | with_reducible refine Ext.drew ?_ | with_reducible refine Ext.drewN ?_ _ | with_reducible refine Ext.setCell ?_ (by first | exact Nat.le_refl _ | assumption | (simp; done) | omega) _ | with_reducible refine Ext.trans ?_ (by with_reducible assumption))); done))) hg7 (fun e => own_blk_ne HW2.out HM2.out.box (by decide) e.symm)).frozen 2) | fail)
                  all_goals
                    obtain ⟨L8, hM8, hb8, hvo8, hvi8⟩ := HM2.out.deleted (j := 0) (by omega) HVY.out HYN.out hkn (by ((repeat (first | with_reducible exact Ext.refl _ | with_reducible assumption | with_reducible refine Ext.alloc ?_ _ | with_reducible refine Ext.drew ?_ | with_reducible refine Ext.drewN ?_ _ | with_reducible refine Ext.setCell ?_ (by first | exact Nat.le_refl _ | assumption | (simp; done) | omega) _ | with_reducible refine Ext.trans ?_ (by with_reducible assumption))); done)) ho7 hg7
                    have HFIN := hide (show PairAt w0 gp b (dropI d1 0 kk) (w7.setCell ⟨gp, 2, none⟩ (.slice (some ⟨gy, 0, none⟩) (ny - 1) cy)) from ⟨L8, hM8, by rw [hb8]; exact HLB.out⟩)
                    have HM8 := hide hM8
                    have HB8 := hide hb8
                    have HVO8 := hide hvo8
                    have HVI8 := hide hvi8
                    have HG7 := hide (grown_trans' (grown_of_ext (by ((repeat (first | with_reducible exact Ext.refl _ | with_reducible assumption | with_reducible refine Ext.alloc ?_ _ | with_reducible refine Ext.drew ?_ | with_reducible refine Ext.drewN ?_ _ | with_reducible refine Ext.setCell ?_ (by first | exact Nat.le_refl _ | assumption | (simp; done) | omega) _ | with_reducible refine Ext.trans ?_ (by with_reducible assumption))); done)) _) hg7 : World.grownBy W2 w7 (some gy))
                    clear ho7 hg7 hM8 hb8 hvo8 hvi8
                    go_upto_region 31 with fail
                    have hlt1 : gy < gs := by have h1 := (HWAY.out.lt gy rfl).2; have h2 := HGS.out; omega
                    have hlt2 : gp < gs := by have h1 := HL.out.box.lt; have h2 := HGS.out; omega
                    have HBS8 := hide (Blk.far (Blk.grown HBS.out HG7.out (fun e => by injection e with e; omega)) (p := ⟨gp, 2, none⟩) (by dsimp only; omega) (.slice (some ⟨gy, 0, none⟩) (ny - 1) cy))
                    have hsx7 : w7.ownsRow w0.heap.size 5 1 (.slice As ns cs) ns (bytesV sd) := own_of_keep (HXQ.out.own HSX.out) (fun q hv => HG7.out.block q ((HXQ.out.own HSX.out).lt q hv).2 (fun e => own_ne_own (HXQ.out.own HSX.out) HW2.out (by decide) hv e.symm))
                    have hbox7 : Blk w7 gp 43 _ := HM2.out.box.grown HG7.out (fun e => own_blk_ne HW2.out HM2.out.box (by decide) e.symm)
                    have HSX8 := hide (own_far (p := ⟨gp, 2, none⟩) hsx7 (own_blk_ne hsx7 hbox7 (by decide)) (.slice (some ⟨gy, 0, none⟩) (ny - 1) cy))
                    have HFX8 := hide (show ∀ q, Value.ownBlock (.slice As ns cs) = some q → ¬ foot (L8.b 0) (L8.vo 0) (L8.vi 0) q from by rw [HB8.out, HVO8.out, HVI8.out]; exact fun q hq => HFX.out q hq 0 (by omega))
                    clear hsx7 hbox7 HBS HSX HFX HWAY HW2 HM2 HL Y0 YF n5 nf
                    generalize w7.setCell ⟨gp, 2, none⟩ (.slice (some ⟨gy, 0, none⟩) (ny - 1) cy) = w8 at *
                    have p0 : w8.cell? ⟨gp, 0, none⟩ = some (.pointer (some ⟨L8.b 0, 0, none⟩)) := HM8.out.box.cell 0
                    have z0 : w8.cell? ⟨gs, 0, none⟩ = some (.int .u32 sq) := HBS8.out.cell 0
                    have z1 : w8.cell? ⟨gs, 1, none⟩ = some (.int .u32 sa) := HBS8.out.cell 1
                    have z2 : w8.cell? ⟨gs, 2, none⟩ = some (.int .i64 sf) := HBS8.out.cell 2
                    have z3 : w8.cell? ⟨gs, 3, none⟩ = some (.int .i64 sw) := HBS8.out.cell 3
                    have z4 : w8.cell? ⟨gs, 4, none⟩ = some (.slice As ns cs) := HBS8.out.cell 4
                    have HOK8 := hide (show (d1.e 0).Ok from HM8.out.ok 0 (by omega))
                    have HCOME := hide (fun (W' : World) (hx : Ext w8 W') => show Calls Try.prog 19 #[.pointer (some ⟨L8.b 0, 0, none⟩), segV sq sa sf sw (.slice As ns cs)] W' (fun r w9 => Ext w8 W' ∧ EndRet W' (L8.b 0) (L8.vo 0) (L8.vi 0) (.int .i64 (comeN (d1.e 0))) (comeE (d1.e 0) sq sa sf sw sd) r w9) from
                      (come_any W' (L8.b 0) (d1.e 0) (L8.vo 0) (L8.vi 0) sq sa sf sw As ns cs sd ((HM8.out.end_ 0 (by omega)).ext hx) HOK8.out HSO.out.seq HSO.out.ack (by have := HSO.out.fl; dsimp only at this; omega) (by have := HSO.out.wd; dsimp only at this; omega) hn32 (own_mono (hx.own HSX8.out) (Nat.zero_le _)) HFX8.out).mono (fun r w9 h => ⟨hx, h⟩))
                    obtain ⟨g9, hg9⟩ : ∃ x, L8.b 0 = x := ⟨_, rfl⟩
                    rw [hg9] at p0 HCOME
                    have HG9 := hide hg9
                    clear hg9
                    go_still_tail 7, (by kernel_rfl)
                    go_wp2_with fail
                    refine (HCOME.out _ (by first | exact (Ext.refl w8).drew | exact (Ext.refl w8).drewN _ | exact Ext.refl w8)).mono ?_
                    rintro r w9 ⟨hxw, rfl, hop⟩
                    have HFIN2 := hide (show PairAt w0 gp b (getI d1 0 kk) w9 from by
                      rw [← HG9.out] at hop
                      obtain ⟨L9, h1, h2, -⟩ := (HM8.out.extend hxw).endOp (i := 0) (by omega) (comeS_ok HOK8.out HSO.out) hop
                      refine ⟨L9, ?_, by rw [h2, HB8.out]; exact HLB.out⟩
                      unfold getI
                      rw [HYK.out]
                      exact h1)
                    clear hxw hop
                    go_wp2_with fail
                    go_meet
                    exact ⟨by rw [HTV2.out], by rw [HTV2.out]; exact HFIN2.out⟩
                · obtain rfl : ny = 0 := by omega
                  have HTV2 := hide (show turnI d1 tk ⟨tkind, tn, tdata⟩ = (d1, tk) by rw [HTV.out, HYN.out, if_neg (by omega)])
                  go_wp2_with fail
                  go_meet
                  exact ⟨by rw [HTV2.out], by rw [HTV2.out]; exact ⟨L, HL.out, HLB.out⟩⟩
            · as_aux_lemma =>
                have HTV := hide (show turnI d1 tk ⟨tkind, tn, tdata⟩ = (if 0 < (d1.y 1).length then getI d1 1 (pickN tn (d1.y 1).length) else d1, tk) by unfold turnI endOf; dsimp only; rw [HZ26.out, HZ8.out, if_neg (by omega), if_neg (by omega), if_neg (by omega), if_neg (by omega), if_pos (by omega)]; rfl)
                obtain ⟨L, hL, hLb⟩ := HP2.out
                have HL := hide hL
                have HLB := hide hLb
                have hway := hL.way 1 (by omega)
                obtain ⟨Ay, cy, hvy, hny, hcy, hnil⟩ := own_form hway
                have hyl : (d1.y 1).length ≤ 10000 := by have := HS.out.s.way 1 (by omega); omega
                have y0 : W.cell? ⟨gp, 3, none⟩ = some (.slice Ay (d1.y 1).length cy) := by rw [← hvy]; exact hL.box.cell 3
                have yf : W.frozen? ⟨gp, 3, none⟩ = false := hL.box.frozen 3
                have hll : (L.ls 1).length = (d1.y 1).length := by rw [← hL.segs 1 (by omega), List.length_map]
                rw [hvy] at hway
                obtain ⟨ny, hyn⟩ : ∃ x, (d1.y 1).length = x := ⟨_, rfl⟩
                rw [hyn] at y0 hny hyl hway hll
                have HVY := hide (show L.vy 1 = .slice Ay ny cy by rw [hvy, hyn])
                have HYN := hide hyn
                have HWAY := hide hway
                have HLL := hide hll
                have HNIL := hide hnil
                unfold maxLen at hcy
                clear hL hLb hvy hyn hll hnil
                by_cases hn0 : 0 < ny
                · have hdr := restZ_lo (tn.tdiv 2) ny (by omega)
                  have hdr2 := restZ_hi (tn.tdiv 2) ny (by omega)
                  obtain ⟨kk, hkk⟩ : ∃ x : Nat, restZ (tn.tdiv 2) ny = x := ⟨(restZ (tn.tdiv 2) ny).toNat, by omega⟩
                  have hkn : kk < ny := by omega
                  have HPK := hide (show pickN tn ny = kk by unfold pickN; rw [hkk]; rfl)
                  obtain ⟨q, hq⟩ : ∃ x, tn.tdiv 2 = x := ⟨_, rfl⟩
                  have hqb : -9223372036854775808 ≤ q ∧ q ≤ 9223372036854775807 := by
                    rw [← hq]
                    have h1 := hk2.1
                    have h2 := hk2.2
                    have e1 := Int.tdiv_eq_ediv (a := tn) (b := 2)
                    rw [e1, show Int.sign 2 = 1 from rfl]
                    split <;> omega
                  rw [hq] at hkk
                  have HRK := hide (fun dd => show Calls Try.prog 35 #[.int .i64 q, .int .i64 ny] (W.drewN dd) (fun e w' => e = .returned (.int .i64 (kk : Int)) ∧ W.drewN dd = w') from by rw [← hkk]; exact rest_any q ny _ hqb.1 hqb.2 (by omega) (by omega))
                  have hqw : IntKind.i64.wrap q = q := by rw [IntKind.wrap_i64]; omega
                  clear hdr hdr2 hkk hqb
                  have HTV2 := hide (show turnI d1 tk ⟨tkind, tn, tdata⟩ = (getI d1 1 kk, tk) by rw [HTV.out, HYN.out, if_pos hn0, HPK.out])
                  obtain ⟨gy, hgy, -⟩ := own_addr HWAY.out hn0
                  subst hgy
                  have hkl2 : kk < (L.ls 1).length := by rw [HLL.out]; exact hkn
                  have hrd := Reads.of_own HWAY.out
                  have r0 := Reads.elem segC_len hrd kk hkl2 (by omega) 0 (by omega) (u := .int .u32 (L.ls 1)[kk].1.seq) rfl
                  have r1 := Reads.elem segC_len hrd kk hkl2 (by omega) 1 (by omega) (u := .int .u32 (L.ls 1)[kk].1.ack) rfl
                  have r2 := Reads.elem segC_len hrd kk hkl2 (by omega) 2 (by omega) (u := .int .i64 (L.ls 1)[kk].1.fl) rfl
                  have r3 := Reads.elem segC_len hrd kk hkl2 (by omega) 3 (by omega) (u := .int .i64 (L.ls 1)[kk].1.wd) rfl
                  have r4 := Reads.elem segC_len hrd kk hkl2 (by omega) 4 (by omega) (u := (L.ls 1)[kk].2) rfl
                  have hxm : (L.ls 1)[kk] ∈ L.ls 1 := List.getElem_mem hkl2
                  have hyk : (d1.y 1)[kk]? = some (L.ls 1)[kk].1 := by rw [← HL.out.segs 1 (by omega), List.getElem?_map, List.getElem?_eq_getElem hkl2]; rfl
                  have hso : (L.ls 1)[kk].1.Ok := HL.out.sok 1 (by omega) _ (by rw [← HL.out.segs 1 (by omega)]; exact List.mem_map.2 ⟨_, hxm, rfl⟩)
                  have hsx := HL.out.data 1 (by omega) _ hxm
                  have hfx := HL.out.free 1 (by omega) _ hxm
                  obtain ⟨x, hx⟩ : ∃ x, (L.ls 1)[kk] = x := ⟨_, rfl⟩
                  rw [hx] at r0 r1 r2 r3 r4 hyk hso hsx hfx
                  obtain ⟨⟨sq, sa, sf, sw, sd⟩, sv⟩ := x
                  obtain ⟨As, cs, hsv, hns, hcs, -⟩ := own_form hsx
                  dsimp only at r0 r1 r2 r3 r4 hyk hso hsx hfx hsv hns
                  subst hsv
                  obtain ⟨ns, hns'⟩ : ∃ x, sd.length = x := ⟨_, rfl⟩
                  have hsx' : W.ownsRow w0.heap.size 5 1 (.slice As ns cs) ns (bytesV sd) := by rw [← hns']; exact hsx
                  rw [hns'] at r4 hfx
                  have HSX := hide hsx'
                  have HFX := hide hfx
                  have HSO := hide hso
                  have HYK := hide hyk
                  have hn32 : ns ≤ 32 := by rw [← hns']; exact hso.data
                  have y1 : W.cell? ⟨gy, kk * 5, none⟩ = some (.int .u32 sq) := by simpa using r0
                  have y2 : W.cell? ⟨gy, kk * 5 + 1, none⟩ = some (.int .u32 sa) := by simpa using r1
                  have y3 : W.cell? ⟨gy, kk * 5 + 2, none⟩ = some (.int .i64 sf) := by simpa using r2
                  have y4 : W.cell? ⟨gy, kk * 5 + 3, none⟩ = some (.int .i64 sw) := by simpa using r3
                  have y5 : W.cell? ⟨gy, kk * 5 + 4, none⟩ = some (.slice As ns cs) := by simpa using r4
                  clear r0 r1 r2 r3 r4 hxm hyk hso hsx hsx' hfx hx hns' hrd hns hcs
                  go_upto_region 28 with fail
                  go_quiet ((go_at_call 35; exact quiet_eq (HRK.out _)))
                  go_upto_region 29 with fail
                  have HXD := hide ((Ext.refl W).drewN nq)
                  have HL2 := hide (HL.out.extend HXD.out)
                  have HWAY2 := hide (HXD.out.own HWAY.out)
                  have HSX2 := hide (HXD.out.own HSX.out)
                  have x0 := HXD.out.cell y0
                  have xf := (HXD.out.frozen y0).trans yf
                  have x1 := HXD.out.cell y1
                  have x2 := HXD.out.cell y2
                  have x3 := HXD.out.cell y3
                  have x4 := HXD.out.cell y4
                  have x5 := HXD.out.cell y5
                  generalize W.drewN nq = V at *
                  clear y0 yf y1 y2 y3 y4 y5 b0 b1 b2 HRK HL HWAY HSX
                  have HL := HL2
                  have HWAY := HWAY2
                  have HSX := HSX2
                  have y0 := x0
                  have yf := xf
                  clear x0 xf HL2 HWAY2 HSX2
                  go_upto_region 30 with fail
                  have HBS := hide (Blk.new V 49 #[.int .u32 sq, .int .u32 sa, .int .i64 sf, .int .i64 sw, .slice As ns cs])
                  have HXQ := hide ((Ext.refl V).alloc (.cells #[.int .u32 sq, .int .u32 sa, .int .i64 sf, .int .i64 sw, .slice As ns cs] 49))
                  generalize V.alloc (.cells #[.int .u32 sq, .int .u32 sa, .int .i64 sf, .int .i64 sw, .slice As ns cs] 49) = W2 at *
                  obtain ⟨gs, hgs⟩ : ∃ x, V.heap.size = x := ⟨_, rfl⟩
                  rw [hgs] at HBS ⊢
                  have HGS := hide hgs
                  clear hgs x1 x2 x3 x4 x5
                  have HM2 := hide (HL.out.extend HXQ.out)
                  have HW2 := hide (HXQ.out.own HWAY.out)
                  have Y0 := HXQ.out.cell y0
                  have YF := (HXQ.out.frozen y0).trans yf
                  clear y0 yf
                  have hkw : IntKind.i64.wrap ((kk : Int) + 1) = (kk : Int) + 1 := by rw [IntKind.wrap_i64]; omega
                  rw [← opDel5_eq]
                  have hOp := opDel5_eq
                  go_region_held3 (fun _ => True) (trivial)
                    (first | (go_at_call 36; refine (delete_seg w0.heap.size gy ny cy kk (L.ls 1) _ (Ext.own (w := W2) (by ((repeat (first | with_reducible exact Ext.refl _ | with_reducible assumption | with_reducible refine Ext.alloc ?_ _ | with_reducible refine Ext.drew ?_ | with_reducible refine Ext.drewN ?_ _ | with_reducible refine Ext.setCell ?_ (by first | exact Nat.le_refl _ | assumption | (simp; done) | omega) _ | with_reducible refine Ext.trans ?_ (by with_reducible assumption))); done)) HW2.out) (segs_one (HM2.out.data 1 (by omega))) hkn).mono ?_; rintro r w7 ⟨rfl, ho7, hg7⟩; have n5 : w7.cell? ⟨gp, 3, none⟩ = some (.slice (some ⟨gy, 0, none⟩) ny cy) := hg7.cell (Ext.cell (w := W2) (by ((repeat (first | with_reducible exact Ext.refl _ | with_reducible assumption | with_reducible refine Ext.alloc ?_ _ | with_reducible refine Ext.drew ?_ | with_reducible refine Ext.drewN ?_ _ | with_reducible refine Ext.setCell ?_ (by first | exact Nat.le_refl _ | assumption | (simp; done) | omega) _ | with_reducible refine Ext.trans ?_ (by with_reducible assumption))); done)) Y0) (fun e => own_blk_ne HW2.out HM2.out.box (by decide) e.symm); have nf : w7.frozen? ⟨gp, 3, none⟩ = false := (Blk.grown (Blk.ext HM2.out.box (by ((repeat (first | with_reducible exact Ext.refl _ | with_reducible assumption | with_reducible refine Ext.alloc ?_ _ | with_reducible refine Ext.drew ?_ | with_reducible refine Ext.drewN ?_ _ | with_reducible refine Ext.setCell ?_ (by first | exact Nat.le_refl _ | assumption | (simp; done) | omega) _ | with_reducible refine Ext.trans ?_ (by with_reducible assumption))); done))) hg7 (fun e => own_blk_ne HW2.out HM2.out.box (by decide) e.symm)).frozen 3) | fail)
                  all_goals
                    obtain ⟨L8, hM8, hb8, hvo8, hvi8⟩ := HM2.out.deleted (j := 1) (by omega) HVY.out HYN.out hkn (by ((repeat (first | with_reducible exact Ext.refl _ | with_reducible assumption | with_reducible refine Ext.alloc ?_ _ | with_reducible refine Ext.drew ?_ | with_reducible refine Ext.drewN ?_ _ | with_reducible refine Ext.setCell ?_ (by first | exact Nat.le_refl _ | assumption | (simp; done) | omega) _ | with_reducible refine Ext.trans ?_ (by with_reducible assumption))); done)) ho7 hg7
                    have HFIN := hide (show PairAt w0 gp b (dropI d1 1 kk) (w7.setCell ⟨gp, 3, none⟩ (.slice (some ⟨gy, 0, none⟩) (ny - 1) cy)) from ⟨L8, hM8, by rw [hb8]; exact HLB.out⟩)
                    have HM8 := hide hM8
                    have HB8 := hide hb8
                    have HVO8 := hide hvo8
                    have HVI8 := hide hvi8
                    have HG7 := hide (grown_trans' (grown_of_ext (by ((repeat (first | with_reducible exact Ext.refl _ | with_reducible assumption | with_reducible refine Ext.alloc ?_ _ | with_reducible refine Ext.drew ?_ | with_reducible refine Ext.drewN ?_ _ | with_reducible refine Ext.setCell ?_ (by first | exact Nat.le_refl _ | assumption | (simp; done) | omega) _ | with_reducible refine Ext.trans ?_ (by with_reducible assumption))); done)) _) hg7 : World.grownBy W2 w7 (some gy))
                    clear ho7 hg7 hM8 hb8 hvo8 hvi8
                    go_upto_region 31 with fail
                    have hlt1 : gy < gs := by have h1 := (HWAY.out.lt gy rfl).2; have h2 := HGS.out; omega
                    have hlt2 : gp < gs := by have h1 := HL.out.box.lt; have h2 := HGS.out; omega
                    have HBS8 := hide (Blk.far (Blk.grown HBS.out HG7.out (fun e => by injection e with e; omega)) (p := ⟨gp, 3, none⟩) (by dsimp only; omega) (.slice (some ⟨gy, 0, none⟩) (ny - 1) cy))
                    have hsx7 : w7.ownsRow w0.heap.size 5 1 (.slice As ns cs) ns (bytesV sd) := own_of_keep (HXQ.out.own HSX.out) (fun q hv => HG7.out.block q ((HXQ.out.own HSX.out).lt q hv).2 (fun e => own_ne_own (HXQ.out.own HSX.out) HW2.out (by decide) hv e.symm))
                    have hbox7 : Blk w7 gp 43 _ := HM2.out.box.grown HG7.out (fun e => own_blk_ne HW2.out HM2.out.box (by decide) e.symm)
                    have HSX8 := hide (own_far (p := ⟨gp, 3, none⟩) hsx7 (own_blk_ne hsx7 hbox7 (by decide)) (.slice (some ⟨gy, 0, none⟩) (ny - 1) cy))
                    have HFX8 := hide (show ∀ q, Value.ownBlock (.slice As ns cs) = some q → ¬ foot (L8.b 1) (L8.vo 1) (L8.vi 1) q from by rw [HB8.out, HVO8.out, HVI8.out]; exact fun q hq => HFX.out q hq 1 (by omega))
                    clear hsx7 hbox7 HBS HSX HFX HWAY HW2 HM2 HL Y0 YF n5 nf
                    generalize w7.setCell ⟨gp, 3, none⟩ (.slice (some ⟨gy, 0, none⟩) (ny - 1) cy) = w8 at *
                    have p0 : w8.cell? ⟨gp, 1, none⟩ = some (.pointer (some ⟨L8.b 1, 0, none⟩)) := HM8.out.box.cell 1
                    have z0 : w8.cell? ⟨gs, 0, none⟩ = some (.int .u32 sq) := HBS8.out.cell 0
                    have z1 : w8.cell? ⟨gs, 1, none⟩ = some (.int .u32 sa) := HBS8.out.cell 1
                    have z2 : w8.cell? ⟨gs, 2, none⟩ = some (.int .i64 sf) := HBS8.out.cell 2
                    have z3 : w8.cell? ⟨gs, 3, none⟩ = some (.int .i64 sw) := HBS8.out.cell 3
                    have z4 : w8.cell? ⟨gs, 4, none⟩ = some (.slice As ns cs) := HBS8.out.cell 4
                    have HOK8 := hide (show (d1.e 1).Ok from HM8.out.ok 1 (by omega))
                    have HCOME := hide (fun (W' : World) (hx : Ext w8 W') => show Calls Try.prog 19 #[.pointer (some ⟨L8.b 1, 0, none⟩), segV sq sa sf sw (.slice As ns cs)] W' (fun r w9 => Ext w8 W' ∧ EndRet W' (L8.b 1) (L8.vo 1) (L8.vi 1) (.int .i64 (comeN (d1.e 1))) (comeE (d1.e 1) sq sa sf sw sd) r w9) from
                      (come_any W' (L8.b 1) (d1.e 1) (L8.vo 1) (L8.vi 1) sq sa sf sw As ns cs sd ((HM8.out.end_ 1 (by omega)).ext hx) HOK8.out HSO.out.seq HSO.out.ack (by have := HSO.out.fl; dsimp only at this; omega) (by have := HSO.out.wd; dsimp only at this; omega) hn32 (own_mono (hx.own HSX8.out) (Nat.zero_le _)) HFX8.out).mono (fun r w9 h => ⟨hx, h⟩))
                    obtain ⟨g9, hg9⟩ : ∃ x, L8.b 1 = x := ⟨_, rfl⟩
                    rw [hg9] at p0 HCOME
                    have HG9 := hide hg9
                    clear hg9
                    go_still_tail 7, (by kernel_rfl)
                    go_wp2_with fail
                    refine (HCOME.out _ (by first | exact (Ext.refl w8).drew | exact (Ext.refl w8).drewN _ | exact Ext.refl w8)).mono ?_
                    rintro r w9 ⟨hxw, rfl, hop⟩
                    have HFIN2 := hide (show PairAt w0 gp b (getI d1 1 kk) w9 from by
                      rw [← HG9.out] at hop
                      obtain ⟨L9, h1, h2, -⟩ := (HM8.out.extend hxw).endOp (i := 1) (by omega) (comeS_ok HOK8.out HSO.out) hop
                      refine ⟨L9, ?_, by rw [h2, HB8.out]; exact HLB.out⟩
                      unfold getI
                      rw [HYK.out]
                      exact h1)
                    clear hxw hop
                    go_wp2_with fail
                    go_meet
                    exact ⟨by rw [HTV2.out], by rw [HTV2.out]; exact HFIN2.out⟩
                · obtain rfl : ny = 0 := by omega
                  have HTV2 := hide (show turnI d1 tk ⟨tkind, tn, tdata⟩ = (d1, tk) by rw [HTV.out, HYN.out, if_neg (by omega)])
                  go_wp2_with fail
                  go_meet
                  exact ⟨by rw [HTV2.out], by rw [HTV2.out]; exact ⟨L, HL.out, HLB.out⟩⟩
          · as_aux_lemma =>
              have HLV0 := hide (HS.out.s.live 0 (by omega))
              have HLV1 := hide (show Live ((tickI d1 0).e 1) by
                show Live (upd d1.e 0 (tickE (d1.e 0)) 1)
                rw [upd_other _ _ (by decide)]
                exact HS.out.s.live 1 (by omega))
              have hptr := HP2.out.ptrs
              obtain ⟨p0, p1⟩ := hptr
              by_cases ht10 : tk + 1 < 10
              · have HTV := hide (show turnI d1 tk ⟨tkind, tn, tdata⟩ = (tickI (tickI d1 0) 1, tk + 1) by unfold turnI endOf; dsimp only; rw [HZ26.out, if_neg (by omega), if_neg (by omega), if_neg (by omega), if_neg (by omega), if_neg (by omega), if_pos ht10])
                have htI : ((tk : Int) + 1) < 10 := by omega
                go_wp2_with fail
                refine (end_tick w0 gp b d1 W 0 (by omega) HP2.out HLV0.out).mono ?_
                rintro r w3 ⟨rfl, hp3⟩
                have HP3 := hide hp3
                obtain ⟨q0, q1⟩ := hp3.ptrs
                clear hp3
                go_wp2_with fail
                refine (end_tick w0 gp b _ w3 1 (by omega) HP3.out HLV1.out).mono ?_
                rintro r w4 ⟨rfl, hp4⟩
                have HP4 := hide hp4
                clear hp4
                go_wp2_with fail
                go_meet
                exact ⟨by rw [HTV.out]; go_num, by rw [HTV.out]; exact HP4.out⟩
              · have HTV := hide (show turnI d1 tk ⟨tkind, tn, tdata⟩ = (d1, tk + 1) by unfold turnI endOf; dsimp only; rw [HZ26.out, if_neg (by omega), if_neg (by omega), if_neg (by omega), if_neg (by omega), if_neg (by omega), if_neg ht10])
                have htI : ¬ (((tk : Int) + 1) < 10) := by omega
                go_wp2_with fail
                go_meet
                exact ⟨by rw [HTV.out]; go_num, by rw [HTV.out]; exact HP2.out⟩
        case rest =>
        obtain ⟨rfl, hp⟩ := hcut
        have HPN := hide hp
        have HKN := hide (kept_turn HP2.out.ok HS.out tk ⟨tkind, tn, tdata⟩)
        have htn := turn_ticks d1 tk ⟨tkind, tn, tdata⟩
        have HTU2 := hide (show stepsP d ls (k + 1) = (sayP (turnI d1 tk ⟨tkind, tn, tdata⟩).1, (turnI d1 tk ⟨tkind, tn, tdata⟩).2) by
          rw [HST.out]
          unfold turnP
          rw [HD1.out, HTK.out])
        clear hp HTU b0 b1 b2 HP2 HR2 HR8 e2 e3 e8 e9
        generalize turnI d1 tk ⟨tkind, tn, tdata⟩ = r1 at *
        obtain ⟨d2, tk2⟩ := r1
        dsimp only at HPN HKN htn HTU2
        dsimp only
        go_wp2_with fail
        refine (pair_say w0 gp b d2 wc HPN.out (fun i hi => by have := HKN.out.s.way i hi; omega)).mono ?_
        rintro r w9 ⟨rfl, hp9⟩
        have HP9 := hide hp9
        clear hp9 HPN
        go_wp2_with fail
        go_roundg (n - (k + 1))
        case rel =>
          refine ⟨k + 1, by omega, by omega, by omega, by go_num, ?_, ?_, ?_, ?_⟩
          · rw [HTU2.out]
          · rw [HTU2.out]; dsimp only; omega
          · rw [HTU2.out]; exact HP9.out
          · rw [HTU2.out]
            have := kept_say HKN.out
            exact ⟨this.s.mono (by omega) (by omega), fun i hi => by have := this.put i hi; omega⟩
        case measure => have := HGK.out; omega
    · obtain rfl : k = n := by omega
      go_wp2_with fail
      go_ret
      refine ⟨rfl, ?_⟩
      have : turnsP d (ls.map (·.1)) = stepsP d ls k := by
        unfold turnsP stepsP
        rw [List.take_of_length_le (by rw [List.length_map, HLL.out]; exact hk40), List.take_of_length_le (by rw [List.length_map, HLL.out]; exact Nat.le_refl _)]
      rw [this]
      exact ⟨HP.out, ⟨HS.out.s.mono (by omega) (by omega), fun i hi => by have := HS.out.put i hi; omega⟩⟩
end Go.Proofs.Ytkfpmljlgpobjaa
