/- The contract of (*pair).say. -/
import Derived.Test.YtkfpmljlgpobjaaPairSay
import Derived.Outline
namespace Go.Proofs.Ytkfpmljlgpobjaa
open Go.RowKit
set_option linter.unusedVariables false

set_option maxHeartbeats 4000000 in
set_option maxRecDepth 100000 in
theorem pair_say (w0 : World) (gp : Nat) (b : Nat → Nat) (d : PairD) (w : World) (h : PairAt w0 gp b d w) (hl : ∀ i, i < 2 → (d.y i).length ≤ 10000) :
    Calls Try.prog 22 #[.pointer (some ⟨gp, 0, none⟩)] w fun r w' => r = .returned (.tuple #[]) ∧ PairAt w0 gp b (sayP d) w' := by
  obtain ⟨i0, hi0, hz0, hz1, hz2⟩ := info_parts seg_info
  have HP := hide h
  have HLEN0 := hide (show (d.y 1).length ≤ 20000 by have := hl 1 (by omega); omega)
  have HLEN1 := hide (show ((sayI d 0).y 0).length ≤ 20000 by
    have h0 : (sayI d 0).y 0 = d.y 0 := by simp [sayI, upd]
    rw [h0]
    have := hl 0 (by omega); omega)
  have hc : w.cell? ⟨gp, 0, none⟩ = some (.pointer (some ⟨b 0, 0, none⟩)) ∧ w.cell? ⟨gp, 1, none⟩ = some (.pointer (some ⟨b 1, 0, none⟩)) := by
    obtain ⟨L, h1, h2⟩ := h
    subst h2
    exact ⟨h1.cells.1, h1.cells.2.1⟩
  obtain ⟨p0, p1⟩ := hc
  clear h hl
  go_enter Try.func22, Try.ntmps22
  go_wp2_with fail
  go_loopw [8] (SayRel w0 gp b d) (fun i _ => 2 - (intOf i).toNat)
  case atStart => exact ⟨0, by omega, rfl, HP.out⟩
  case round =>
    obtain ⟨k, hk, rfl, hp⟩ := hrel
    clear p0 p1 HP
    have hk3 : k = 0 ∨ k = 1 ∨ k = 2 := by omega
    rcases hk3 with rfl | rfl | rfl
    · have hp' : PairAt w0 gp b d wr := hp
      obtain ⟨L, h, hLb⟩ := hp'
      clear hp
      have HM := hide h
      have HLB := hide hLb
      have HB0 := hide (congrFun hLb 0)
      have HB1 := hide (congrFun hLb 1)
      have hway := h.way 1 (by omega)
      obtain ⟨Ay, cy, hvy, hny, hcy, -⟩ := own_form hway
      have HVY := hide hvy
      have hyl : (d.y 1).length ≤ 20000 := HLEN0.out
      have HEND := hide (h.end_ 0 (by omega))
      have hok := h.ok 0 (by omega)
      have HOK := hide hok
      have y0 : wr.cell? ⟨gp, 3, none⟩ = some (.slice Ay (d.y 1).length cy) := by rw [← hvy]; exact h.box.cell 3
      have yf : wr.frozen? ⟨gp, 3, none⟩ = false := h.box.frozen 3
      rw [hvy] at hway
      have HWAY := hide hway
      obtain ⟨ny, hyn⟩ : ∃ x, (d.y 1).length = x := ⟨_, rfl⟩
      rw [hyn] at y0 hyl hny HWAY
      have HYN := hide hyn
      have hne : L.b 0 ≠ gp := Blk.ne_ (h.end_ 0 (by omega)).box h.box (by decide)
      obtain ⟨gi, hgi⟩ : ∃ x, L.b 0 = x := ⟨_, rfl⟩
      rw [hgi] at HEND hne
      have hbi : b 0 = gi := by rw [← hgi, hLb]
      rw [hbi]
      have HGI := hide hgi
      unfold maxLen at hcy
      clear h hLb hway hvy hok hyn hgi hbi
      have hidx : ∀ (x y : Value) (W : World), (Instr.index 39 (.agg #[x, y]) (.int .i64 0)).run Try.prog W = .ok x W := fun _ _ _ => by kernel_rfl
      have hw1 : IntKind.i64.wrap (1 - 0) = 1 := by decide
      have hw2 : IntKind.i64.wrap 1 = 1 := by decide
      have hia : ∀ W, (Instr.indexAt 40 (.pointer (some ⟨gp, 2, none⟩)) (.int .i64 1)).run Try.prog W = .ok (.pointer (some ⟨gp, 3, none⟩)) W := fun _ => by kernel_rfl
      go_upto_region 3 with fail
      rw [← opWay_eq]
      have hOp := opWay_eq
      obtain ⟨n1, hn1⟩ : ∃ x, (outE (d.e 0)).2.length = x := ⟨_, rfl⟩
      obtain ⟨k1, hk1⟩ : ∃ x, min n1 70 = x := ⟨_, rfl⟩
      have hk70 : k1 ≤ 70 := by omega
      have HN1 := hide hn1
      have HK1 := hide hk1
      have HOUT := hide (fun (W' : World) (hx : Ext wr W') => show Calls Try.prog 11 #[.pointer (some ⟨gi, 0, none⟩)] W' (OutR wr W' gi (d.e 0) (L.vo 0) (L.vi 0) n1) from
        (out_any W' gi (d.e 0) (L.vo 0) (L.vi 0) (HEND.out.ext hx) HOK.out).mono (fun r w1 h9 => by
          obtain ⟨A, c, h1, h2⟩ := h9
          rw [HN1.out] at h1
          exact ⟨hx, A, c, h1, h2⟩))
      have HCUT := hide (fun (W' : World) (A : Option Addr) (c : Nat) (h9 : n1 ≤ c ∧ c ≤ maxLen) => show Calls Try.prog 34 #[.slice A n1 c] W' (fun e w' => e = .returned (.slice A k1 c) ∧ W' = w') from by rw [← HK1.out]; exact cutSegs_any A n1 c W' h9.1 h9.2)
      have HY := hide y0
      have HYF := hide yf
      clear hn1 hk1
      go_region_held3 (fun _ => True) (trivial)
          (first | (go_at_call 11; refine (HOUT.out _ (by ((repeat (first | with_reducible exact Ext.refl _ | with_reducible assumption | with_reducible refine Ext.alloc ?_ _ | with_reducible refine Ext.drew ?_ | with_reducible refine Ext.drewN ?_ _ | with_reducible refine Ext.setCell ?_ (by first | exact Nat.le_refl _ | assumption | (simp; done) | omega) _ | with_reducible refine Ext.trans ?_ (by with_reducible assumption))); done))).mono ?_; rintro r w1 ⟨hxw, A1, c1, rfl, hat1⟩; have HAT1 := hide hat1; have HXW := hide hxw; have hg1 := grown_trans' (grown_of_ext hxw _) hat1.grown; have y1 : w1.cell? ⟨gp, 3, none⟩ = some (.slice Ay ny cy) := hg1.cell HY.out (fun e => hne (by injection e with e; exact e.symm)); have hle : n1 ≤ c1 ∧ c1 ≤ maxLen := (by obtain ⟨_, _, h9, _⟩ := hat1.segs; rw [HN1.out] at h9; exact own_le h9); have HLE := hide hle; have HOM := hide (HM.out.outed (i := 0) (by omega) hxw (by rw [HGI.out]; exact hat1)); obtain ⟨ls1, hm1, hrd1, hsd1⟩ := segs_take (k := 70) hat1.segs rfl; rw [HN1.out, HK1.out] at hrd1; have HM1 := hide hm1; have HRD1 := hide hrd1; have HSD1 := hide hsd1; have h9 : w1.ownsRow w0.heap.size 49 5 (L.vy 1) (d.y 1).length ((L.ls 1).flatMap segC) := HOM.out.way 1 (by omega); rw [HVY.out, HYN.out] at h9; have HW1 := hide h9; have hs1 : w0.heap.size ≤ w1.heap.size := HOM.out.ext.size; clear hm1 hrd1 hsd1 h9 hat1 hxw hg1 hle) | (go_at_call 34; refine (HCUT.out _ A1 c1 HLE.out).mono ?_; rintro r w2 ⟨rfl, rfl⟩) | (refine step_append_any _ (by rfl) (.tmp 21) (.tmp 24) 27 (by rfl) w0.heap.size 49 i0 _ 5 48 Try.underlying27 hi0 hz0 hz1 hz2 rfl (by omega) (.slice Ay ny cy) ny ((L.ls 1).flatMap segC) (by rfl) (Ext.own (w := w1) (by ((repeat (first | with_reducible exact Ext.refl _ | with_reducible assumption | with_reducible refine Ext.alloc ?_ _ | with_reducible refine Ext.drew ?_ | with_reducible refine Ext.drewN ?_ _ | with_reducible refine Ext.setCell ?_ (by first | exact Nat.le_refl _ | assumption | (simp; done) | omega) _ | with_reducible refine Ext.trans ?_ (by with_reducible assumption))); done)) HW1.out) w1.heap.size A1 k1 c1 (ls1.flatMap segC) (by rfl) (Ext.reads (w := w1) (by ((repeat (first | with_reducible exact Ext.refl _ | with_reducible assumption | with_reducible refine Ext.alloc ?_ _ | with_reducible refine Ext.drew ?_ | with_reducible refine Ext.drewN ?_ _ | with_reducible refine Ext.setCell ?_ (by first | exact Nat.le_refl _ | assumption | (simp; done) | omega) _ | with_reducible refine Ext.trans ?_ (by with_reducible assumption))); done)) HRD1.out (Nat.le_refl _)) (segs_one HSD1.out) (by simp only [maxLen]; omega) (by omega) (Nat.le_trans hs1 (Ext.size (w := w1) (by ((repeat (first | with_reducible exact Ext.refl _ | with_reducible assumption | with_reducible refine Ext.alloc ?_ _ | with_reducible refine Ext.drew ?_ | with_reducible refine Ext.drewN ?_ _ | with_reducible refine Ext.setCell ?_ (by first | exact Nat.le_refl _ | assumption | (simp; done) | omega) _ | with_reducible refine Ext.trans ?_ (by with_reducible assumption))); done)))) ?_; intro A7 c7 w7 ho7 hg7 ha7; have n5 : w7.cell? ⟨gp, 3, none⟩ = some (.slice Ay ny cy) := hg7.cell (Ext.cell (w := w1) (by ((repeat (first | with_reducible exact Ext.refl _ | with_reducible assumption | with_reducible refine Ext.alloc ?_ _ | with_reducible refine Ext.drew ?_ | with_reducible refine Ext.drewN ?_ _ | with_reducible refine Ext.setCell ?_ (by first | exact Nat.le_refl _ | assumption | (simp; done) | omega) _ | with_reducible refine Ext.trans ?_ (by with_reducible assumption))); done)) y1) (fun e => own_blk_ne HW1.out HOM.out.box (by decide) e.symm); have nf : w7.frozen? ⟨gp, 3, none⟩ = false := (Blk.grown (Blk.ext HOM.out.box (by ((repeat (first | with_reducible exact Ext.refl _ | with_reducible assumption | with_reducible refine Ext.alloc ?_ _ | with_reducible refine Ext.drew ?_ | with_reducible refine Ext.drewN ?_ _ | with_reducible refine Ext.setCell ?_ (by first | exact Nat.le_refl _ | assumption | (simp; done) | omega) _ | with_reducible refine Ext.trans ?_ (by with_reducible assumption))); done))) hg7 (fun e => own_blk_ne HW1.out HOM.out.box (by decide) e.symm)).frozen 3) | fail)
      all_goals
        have HS := hide (HM.out.said (i := 0) (by omega) HXW.out (by rw [HGI.out]; exact HAT1.out) HN1.out HK1.out HM1.out HSD1.out (by exact HYN.out) (by rw [HYN.out.symm]; exact HVY.out) (by ((repeat (first | with_reducible exact Ext.refl _ | with_reducible assumption | with_reducible refine Ext.alloc ?_ _ | with_reducible refine Ext.drew ?_ | with_reducible refine Ext.drewN ?_ _ | with_reducible refine Ext.setCell ?_ (by first | exact Nat.le_refl _ | assumption | (simp; done) | omega) _ | with_reducible refine Ext.trans ?_ (by with_reducible assumption))); done)) rfl ho7 hg7 ha7)
        clear ho7 hg7 ha7
        go_wp2_with fail
        go_roundw
        case rel => exact ⟨1, by omega, rfl, by rw [← HLB.out]; exact HS.out⟩
        case measure => simp [intOf]
    · have hp' : PairAt w0 gp b (sayI d 0) wr := hp
      obtain ⟨L, h, hLb⟩ := hp'
      clear hp
      have HM := hide h
      have HLB := hide hLb
      have HB0 := hide (congrFun hLb 0)
      have HB1 := hide (congrFun hLb 1)
      have hway := h.way 0 (by omega)
      obtain ⟨Ay, cy, hvy, hny, hcy, -⟩ := own_form hway
      have HVY := hide hvy
      have hyl : ((sayI d 0).y 0).length ≤ 20000 := HLEN1.out
      have HEND := hide (h.end_ 1 (by omega))
      have hok := h.ok 1 (by omega)
      have HOK := hide hok
      have y0 : wr.cell? ⟨gp, 2, none⟩ = some (.slice Ay ((sayI d 0).y 0).length cy) := by rw [← hvy]; exact h.box.cell 2
      have yf : wr.frozen? ⟨gp, 2, none⟩ = false := h.box.frozen 2
      rw [hvy] at hway
      have HWAY := hide hway
      obtain ⟨ny, hyn⟩ : ∃ x, ((sayI d 0).y 0).length = x := ⟨_, rfl⟩
      rw [hyn] at y0 hyl hny HWAY
      have HYN := hide hyn
      have hne : L.b 1 ≠ gp := Blk.ne_ (h.end_ 1 (by omega)).box h.box (by decide)
      obtain ⟨gi, hgi⟩ : ∃ x, L.b 1 = x := ⟨_, rfl⟩
      rw [hgi] at HEND hne
      have hbi : b 1 = gi := by rw [← hgi, hLb]
      rw [hbi]
      have HGI := hide hgi
      unfold maxLen at hcy
      clear h hLb hway hvy hok hyn hgi hbi
      have hidx : ∀ (x y : Value) (W : World), (Instr.index 39 (.agg #[x, y]) (.int .i64 1)).run Try.prog W = .ok y W := fun _ _ _ => by kernel_rfl
      have hw1 : IntKind.i64.wrap (1 - 1) = 0 := by decide
      have hw2 : IntKind.i64.wrap 0 = 0 := by decide
      have hia : ∀ W, (Instr.indexAt 40 (.pointer (some ⟨gp, 2, none⟩)) (.int .i64 0)).run Try.prog W = .ok (.pointer (some ⟨gp, 2, none⟩)) W := fun _ => by kernel_rfl
      go_upto_region 3 with fail
      rw [← opWay_eq]
      have hOp := opWay_eq
      obtain ⟨n1, hn1⟩ : ∃ x, (outE ((sayI d 0).e 1)).2.length = x := ⟨_, rfl⟩
      obtain ⟨k1, hk1⟩ : ∃ x, min n1 70 = x := ⟨_, rfl⟩
      have hk70 : k1 ≤ 70 := by omega
      have HN1 := hide hn1
      have HK1 := hide hk1
      have HOUT := hide (fun (W' : World) (hx : Ext wr W') => show Calls Try.prog 11 #[.pointer (some ⟨gi, 0, none⟩)] W' (OutR wr W' gi ((sayI d 0).e 1) (L.vo 1) (L.vi 1) n1) from
        (out_any W' gi ((sayI d 0).e 1) (L.vo 1) (L.vi 1) (HEND.out.ext hx) HOK.out).mono (fun r w1 h9 => by
          obtain ⟨A, c, h1, h2⟩ := h9
          rw [HN1.out] at h1
          exact ⟨hx, A, c, h1, h2⟩))
      have HCUT := hide (fun (W' : World) (A : Option Addr) (c : Nat) (h9 : n1 ≤ c ∧ c ≤ maxLen) => show Calls Try.prog 34 #[.slice A n1 c] W' (fun e w' => e = .returned (.slice A k1 c) ∧ W' = w') from by rw [← HK1.out]; exact cutSegs_any A n1 c W' h9.1 h9.2)
      have HY := hide y0
      have HYF := hide yf
      clear hn1 hk1
      go_region_held3 (fun _ => True) (trivial)
          (first | (go_at_call 11; refine (HOUT.out _ (by ((repeat (first | with_reducible exact Ext.refl _ | with_reducible assumption | with_reducible refine Ext.alloc ?_ _ | with_reducible refine Ext.drew ?_ | with_reducible refine Ext.drewN ?_ _ | with_reducible refine Ext.setCell ?_ (by first | exact Nat.le_refl _ | assumption | (simp; done) | omega) _ | with_reducible refine Ext.trans ?_ (by with_reducible assumption))); done))).mono ?_; rintro r w1 ⟨hxw, A1, c1, rfl, hat1⟩; have HAT1 := hide hat1; have HXW := hide hxw; have hg1 := grown_trans' (grown_of_ext hxw _) hat1.grown; have y1 : w1.cell? ⟨gp, 2, none⟩ = some (.slice Ay ny cy) := hg1.cell HY.out (fun e => hne (by injection e with e; exact e.symm)); have hle : n1 ≤ c1 ∧ c1 ≤ maxLen := (by obtain ⟨_, _, h9, _⟩ := hat1.segs; rw [HN1.out] at h9; exact own_le h9); have HLE := hide hle; have HOM := hide (HM.out.outed (i := 1) (by omega) hxw (by rw [HGI.out]; exact hat1)); obtain ⟨ls1, hm1, hrd1, hsd1⟩ := segs_take (k := 70) hat1.segs rfl; rw [HN1.out, HK1.out] at hrd1; have HM1 := hide hm1; have HRD1 := hide hrd1; have HSD1 := hide hsd1; have h9 : w1.ownsRow w0.heap.size 49 5 (L.vy 0) ((sayI d 0).y 0).length ((L.ls 0).flatMap segC) := HOM.out.way 0 (by omega); rw [HVY.out, HYN.out] at h9; have HW1 := hide h9; have hs1 : w0.heap.size ≤ w1.heap.size := HOM.out.ext.size; clear hm1 hrd1 hsd1 h9 hat1 hxw hg1 hle) | (go_at_call 34; refine (HCUT.out _ A1 c1 HLE.out).mono ?_; rintro r w2 ⟨rfl, rfl⟩) | (refine step_append_any _ (by rfl) (.tmp 21) (.tmp 24) 27 (by rfl) w0.heap.size 49 i0 _ 5 48 Try.underlying27 hi0 hz0 hz1 hz2 rfl (by omega) (.slice Ay ny cy) ny ((L.ls 0).flatMap segC) (by rfl) (Ext.own (w := w1) (by ((repeat (first | with_reducible exact Ext.refl _ | with_reducible assumption | with_reducible refine Ext.alloc ?_ _ | with_reducible refine Ext.drew ?_ | with_reducible refine Ext.drewN ?_ _ | with_reducible refine Ext.setCell ?_ (by first | exact Nat.le_refl _ | assumption | (simp; done) | omega) _ | with_reducible refine Ext.trans ?_ (by with_reducible assumption))); done)) HW1.out) w1.heap.size A1 k1 c1 (ls1.flatMap segC) (by rfl) (Ext.reads (w := w1) (by ((repeat (first | with_reducible exact Ext.refl _ | with_reducible assumption | with_reducible refine Ext.alloc ?_ _ | with_reducible refine Ext.drew ?_ | with_reducible refine Ext.drewN ?_ _ | with_reducible refine Ext.setCell ?_ (by first | exact Nat.le_refl _ | assumption | (simp; done) | omega) _ | with_reducible refine Ext.trans ?_ (by with_reducible assumption))); done)) HRD1.out (Nat.le_refl _)) (segs_one HSD1.out) (by simp only [maxLen]; omega) (by omega) (Nat.le_trans hs1 (Ext.size (w := w1) (by ((repeat (first | with_reducible exact Ext.refl _ | with_reducible assumption | with_reducible refine Ext.alloc ?_ _ | with_reducible refine Ext.drew ?_ | with_reducible refine Ext.drewN ?_ _ | with_reducible refine Ext.setCell ?_ (by first | exact Nat.le_refl _ | assumption | (simp; done) | omega) _ | with_reducible refine Ext.trans ?_ (by with_reducible assumption))); done)))) ?_; intro A7 c7 w7 ho7 hg7 ha7; have n5 : w7.cell? ⟨gp, 2, none⟩ = some (.slice Ay ny cy) := hg7.cell (Ext.cell (w := w1) (by ((repeat (first | with_reducible exact Ext.refl _ | with_reducible assumption | with_reducible refine Ext.alloc ?_ _ | with_reducible refine Ext.drew ?_ | with_reducible refine Ext.drewN ?_ _ | with_reducible refine Ext.setCell ?_ (by first | exact Nat.le_refl _ | assumption | (simp; done) | omega) _ | with_reducible refine Ext.trans ?_ (by with_reducible assumption))); done)) y1) (fun e => own_blk_ne HW1.out HOM.out.box (by decide) e.symm); have nf : w7.frozen? ⟨gp, 2, none⟩ = false := (Blk.grown (Blk.ext HOM.out.box (by ((repeat (first | with_reducible exact Ext.refl _ | with_reducible assumption | with_reducible refine Ext.alloc ?_ _ | with_reducible refine Ext.drew ?_ | with_reducible refine Ext.drewN ?_ _ | with_reducible refine Ext.setCell ?_ (by first | exact Nat.le_refl _ | assumption | (simp; done) | omega) _ | with_reducible refine Ext.trans ?_ (by with_reducible assumption))); done))) hg7 (fun e => own_blk_ne HW1.out HOM.out.box (by decide) e.symm)).frozen 2) | fail)
      all_goals
        have HS := hide (HM.out.said (i := 1) (by omega) HXW.out (by rw [HGI.out]; exact HAT1.out) HN1.out HK1.out HM1.out HSD1.out (by exact HYN.out) (by rw [HYN.out.symm]; exact HVY.out) (by ((repeat (first | with_reducible exact Ext.refl _ | with_reducible assumption | with_reducible refine Ext.alloc ?_ _ | with_reducible refine Ext.drew ?_ | with_reducible refine Ext.drewN ?_ _ | with_reducible refine Ext.setCell ?_ (by first | exact Nat.le_refl _ | assumption | (simp; done) | omega) _ | with_reducible refine Ext.trans ?_ (by with_reducible assumption))); done)) rfl ho7 hg7 ha7)
        clear ho7 hg7 ha7
        go_wp2_with fail
        go_roundw
        case rel => exact ⟨2, by omega, rfl, by rw [← HLB.out]; exact HS.out⟩
        case measure => simp [intOf]
    · have HP := hide (show PairAt w0 gp b (sayP d) wr from hp)
      clear hp
      go_wp2_with fail
      (first | go_end0 | ((try simp only [Exit.inBlock, Exit.then]); refine bodyPost_ret (results_none rfl _ _ _) rfl ?_))
      exact ⟨rfl, HP.out⟩
end Go.Proofs.Ytkfpmljlgpobjaa
