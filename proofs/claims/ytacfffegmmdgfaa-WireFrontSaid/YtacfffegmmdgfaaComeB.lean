/- Contracts of (*End).Come where nothing happens, at an end that calls, at one that is told to be gone. -/
import Derived.Test.YtacfffegmmdgfaaCome
namespace Go.Proofs.Ytacfffegmmdgfaa
open Go.RowKit
set_option linter.unusedVariables false

set_option maxHeartbeats 2000000 in
set_option maxRecDepth 100000 in
/-- A listening end that hears no call. -/
theorem come_1n (w : World) (g : Nat) (e : EndD) (vo vi : Value) (q a f wd : Int) (A : Option Addr) (n c : Nat) (hm : EndM w g e vo vi) (hst : e.st = 1) (hf : f = 2 ∨ f = 3 ∨ f = 6) (hw : 0 ≤ wd ∧ wd ≤ 255) (hn : n ≤ 32) :
    Calls Try.prog 29 #[.pointer (some ⟨g, 0, none⟩), segV q a f wd (.slice A n c)] w (EndRet w g vo vi (.int .i64 0) e) := by
  have hfr : 0 ≤ f ∧ f ≤ 15 := by omega
  have k2 := and2 hf
  have k8 := and8 (f := f) (by omega)
  by_cases h3 : f = 3
  · have k1 := and1 (f := f) (.inr h3)
    clear hf h3
    have HW := hide hw
    have hgl : g < w.heap.size := hm.box.lt
    have HM := hide hm
    have HSTE := hide hst
    go_enter Try.func29, Try.ntmps29
    clear hm hw hst
    go_wp2_with fail
    refine (check_ok _ q a f wd A n c hfr HW.out hn).mono ?_
    rintro e' w1 ⟨rfl, hx1⟩
    have HX1 := hide (((Ext.refl w).alloc (.cells #[.int .u32 q, .int .u32 a, .int .i64 f, .int .i64 wd, .slice A n c] 60)).trans hx1)
    have HBX := hide ((Blk.new w 60 #[.int .u32 q, .int .u32 a, .int .i64 f, .int .i64 wd, .slice A n c]).ext hx1)
    have HM1 := hide (HM.out.ext HX1.out)
    have hne : w.heap.size ≠ g := by omega
    clear hx1
    obtain ⟨gb, hgb⟩ : ∃ x, w.heap.size = x := ⟨_, rfl⟩
    rw [hgb] at HBX hne hgl ⊢
    have HGB := hide hgb
    clear hgb
    have b2 : w1.cell? ⟨gb, 2, none⟩ = some (.int .i64 f) := HBX.out.cell 2
    have c0 : w1.cell? ⟨g, 0, none⟩ = some (.int .i64 e.st) := HM1.out.box.cell 0
    rw [HSTE.out] at c0
    go_upto_region 6 with fail
    go_quiet (fail)
    have HXQ := hide ((Ext.refl w1).drewN nq)
    have HX2 := hide (HX1.out.trans HXQ.out)
    have HM2 := hide (HM1.out.ext HXQ.out)
    have HBX2 := hide (HBX.out.ext HXQ.out)
    generalize w1.drewN nq = W at *
    clear b2 c0 HX1 HXQ HBX HM1 HM
    have b0 : W.cell? ⟨gb, 0, none⟩ = some (.int .u32 q) := HBX2.out.cell 0
    have b1 : W.cell? ⟨gb, 1, none⟩ = some (.int .u32 a) := HBX2.out.cell 1
    have b2 : W.cell? ⟨gb, 2, none⟩ = some (.int .i64 f) := HBX2.out.cell 2
    have b3 : W.cell? ⟨gb, 3, none⟩ = some (.int .i64 wd) := HBX2.out.cell 3
    have b4 : W.cell? ⟨gb, 4, none⟩ = some (.slice A n c) := HBX2.out.cell 4
    have c0 : W.cell? ⟨g, 0, none⟩ = some (.int .i64 e.st) := HM2.out.box.cell 0
    rw [HSTE.out] at c0
    go_upto_region 12 with fail
    go_quiet (fail)
    go_upto_region 15 with fail
    go_quiet (fail)
    go_upto_region 17 with fail
    go_quiet (fail)
    go_wp2_with fail
    go_ret
    exact ⟨rfl, EndOp.via (KeepF.of_ext HX2.out) (EndOp.quiet HM2.out _)⟩
  · have k1 := and10 (f := f) (by omega)
    clear hf h3
    have HW := hide hw
    have hgl : g < w.heap.size := hm.box.lt
    have HM := hide hm
    have HSTE := hide hst
    go_enter Try.func29, Try.ntmps29
    clear hm hw hst
    go_wp2_with fail
    refine (check_ok _ q a f wd A n c hfr HW.out hn).mono ?_
    rintro e' w1 ⟨rfl, hx1⟩
    have HX1 := hide (((Ext.refl w).alloc (.cells #[.int .u32 q, .int .u32 a, .int .i64 f, .int .i64 wd, .slice A n c] 60)).trans hx1)
    have HBX := hide ((Blk.new w 60 #[.int .u32 q, .int .u32 a, .int .i64 f, .int .i64 wd, .slice A n c]).ext hx1)
    have HM1 := hide (HM.out.ext HX1.out)
    have hne : w.heap.size ≠ g := by omega
    clear hx1
    obtain ⟨gb, hgb⟩ : ∃ x, w.heap.size = x := ⟨_, rfl⟩
    rw [hgb] at HBX hne hgl ⊢
    have HGB := hide hgb
    clear hgb
    have b2 : w1.cell? ⟨gb, 2, none⟩ = some (.int .i64 f) := HBX.out.cell 2
    have c0 : w1.cell? ⟨g, 0, none⟩ = some (.int .i64 e.st) := HM1.out.box.cell 0
    rw [HSTE.out] at c0
    go_upto_region 6 with fail
    go_quiet (fail)
    have HXQ := hide ((Ext.refl w1).drewN nq)
    have HX2 := hide (HX1.out.trans HXQ.out)
    have HM2 := hide (HM1.out.ext HXQ.out)
    have HBX2 := hide (HBX.out.ext HXQ.out)
    generalize w1.drewN nq = W at *
    clear b2 c0 HX1 HXQ HBX HM1 HM
    have b0 : W.cell? ⟨gb, 0, none⟩ = some (.int .u32 q) := HBX2.out.cell 0
    have b1 : W.cell? ⟨gb, 1, none⟩ = some (.int .u32 a) := HBX2.out.cell 1
    have b2 : W.cell? ⟨gb, 2, none⟩ = some (.int .i64 f) := HBX2.out.cell 2
    have b3 : W.cell? ⟨gb, 3, none⟩ = some (.int .i64 wd) := HBX2.out.cell 3
    have b4 : W.cell? ⟨gb, 4, none⟩ = some (.slice A n c) := HBX2.out.cell 4
    have c0 : W.cell? ⟨g, 0, none⟩ = some (.int .i64 e.st) := HM2.out.box.cell 0
    rw [HSTE.out] at c0
    go_upto_region 12 with fail
    go_quiet (fail)
    go_upto_region 15 with fail
    go_quiet (fail)
    go_upto_region 17 with fail
    go_quiet (fail)
    go_wp2_with fail
    go_ret
    exact ⟨rfl, EndOp.via (KeepF.of_ext HX2.out) (EndOp.quiet HM2.out _)⟩
set_option maxHeartbeats 4000000 in
set_option maxRecDepth 100000 in
/-- A calling end to which no answer comes. -/
theorem come_2n (w : World) (g : Nat) (e : EndD) (vo vi : Value) (q a f wd : Int) (A : Option Addr) (n c : Nat) (hm : EndM w g e vo vi) (hst : e.st = 2) (hf : f = 1 ∨ f = 2 ∨ f = 3 ∨ f = 6) (hno : ¬ (f = 3 ∧ a = e.first ∧ e.top = e.first)) (hw : 0 ≤ wd ∧ wd ≤ 255) (hn : n ≤ 32) :
    Calls Try.prog 29 #[.pointer (some ⟨g, 0, none⟩), segV q a f wd (.slice A n c)] w (EndRet w g vo vi (.int .i64 0) e) := by
  have hfr : 0 ≤ f ∧ f ≤ 15 := by omega
  have k8 := and8 hf
  by_cases h3 : f = 3
  · have k1 := and1 (f := f) (.inr h3)
    have k2 := and2 (f := f) (.inr (.inl h3))
    have hno' : ¬ (a = e.first ∧ e.top = e.first) := fun h => hno ⟨h3, h⟩
    have HNO := hide hno'
    clear hf h3 hno hno'
    have HW := hide hw
    have hgl : g < w.heap.size := hm.box.lt
    have HM := hide hm
    have HSTE := hide hst
    go_enter Try.func29, Try.ntmps29
    clear hm hw hst
    go_wp2_with fail
    refine (check_ok _ q a f wd A n c hfr HW.out hn).mono ?_
    rintro e' w1 ⟨rfl, hx1⟩
    have HX1 := hide (((Ext.refl w).alloc (.cells #[.int .u32 q, .int .u32 a, .int .i64 f, .int .i64 wd, .slice A n c] 60)).trans hx1)
    have HBX := hide ((Blk.new w 60 #[.int .u32 q, .int .u32 a, .int .i64 f, .int .i64 wd, .slice A n c]).ext hx1)
    have HM1 := hide (HM.out.ext HX1.out)
    have hne : w.heap.size ≠ g := by omega
    clear hx1
    obtain ⟨gb, hgb⟩ : ∃ x, w.heap.size = x := ⟨_, rfl⟩
    rw [hgb] at HBX hne hgl ⊢
    have HGB := hide hgb
    clear hgb
    have b2 : w1.cell? ⟨gb, 2, none⟩ = some (.int .i64 f) := HBX.out.cell 2
    have c0 : w1.cell? ⟨g, 0, none⟩ = some (.int .i64 e.st) := HM1.out.box.cell 0
    rw [HSTE.out] at c0
    go_upto_region 6 with fail
    go_quiet (fail)
    have HXQ := hide ((Ext.refl w1).drewN nq)
    have HX2 := hide (HX1.out.trans HXQ.out)
    have HM2 := hide (HM1.out.ext HXQ.out)
    have HBX2 := hide (HBX.out.ext HXQ.out)
    generalize w1.drewN nq = W at *
    clear b2 c0 HX1 HXQ HBX HM1 HM
    have b0 : W.cell? ⟨gb, 0, none⟩ = some (.int .u32 q) := HBX2.out.cell 0
    have b1 : W.cell? ⟨gb, 1, none⟩ = some (.int .u32 a) := HBX2.out.cell 1
    have b2 : W.cell? ⟨gb, 2, none⟩ = some (.int .i64 f) := HBX2.out.cell 2
    have b3 : W.cell? ⟨gb, 3, none⟩ = some (.int .i64 wd) := HBX2.out.cell 3
    have b4 : W.cell? ⟨gb, 4, none⟩ = some (.slice A n c) := HBX2.out.cell 4
    have c0 : W.cell? ⟨g, 0, none⟩ = some (.int .i64 e.st) := HM2.out.box.cell 0
    rw [HSTE.out] at c0
    have c3 : W.cell? ⟨g, 3, none⟩ = some (.int .u32 e.top) := HM2.out.box.cell 3
    have c4 : W.cell? ⟨g, 4, none⟩ = some (.int .u32 e.first) := HM2.out.box.cell 4
    by_cases ha : a = e.first
    · have ht : (e.top == e.first) = false := by
        have : ¬ e.top = e.first := fun h => HNO.out ⟨ha, h⟩
        simpa using this
      have tf : (e.first == e.first) = true := by simp
      rw [ha] at b1
      clear ha
      generalize e.top = tp at c3 ht
      generalize e.first = fs at c4 ht tf b1
      go_upto_region 12 with fail
      go_quiet (fail)
      go_upto_region 15 with fail
      go_quiet (fail)
      go_upto_region 17 with fail
      go_quiet (fail)
      go_wp2_with fail
      go_ret
      exact ⟨rfl, EndOp.via (KeepF.of_ext HX2.out) (EndOp.quiet HM2.out _)⟩
    · have ta : (a == e.first) = false := by simpa using ha
      clear ha
      generalize e.top = tp at c3
      generalize e.first = fs at c4 ta
      go_upto_region 12 with fail
      go_quiet (fail)
      go_upto_region 15 with fail
      go_quiet (fail)
      go_upto_region 17 with fail
      go_quiet (fail)
      go_wp2_with fail
      go_ret
      exact ⟨rfl, EndOp.via (KeepF.of_ext HX2.out) (EndOp.quiet HM2.out _)⟩
  · by_cases h1 : f = 1
    · have k1 := and1 (f := f) (.inl h1)
      have k2 := and20 h1
      clear hf h3 hno h1
      have HW := hide hw
      have hgl : g < w.heap.size := hm.box.lt
      have HM := hide hm
      have HSTE := hide hst
      go_enter Try.func29, Try.ntmps29
      clear hm hw hst
      go_wp2_with fail
      refine (check_ok _ q a f wd A n c hfr HW.out hn).mono ?_
      rintro e' w1 ⟨rfl, hx1⟩
      have HX1 := hide (((Ext.refl w).alloc (.cells #[.int .u32 q, .int .u32 a, .int .i64 f, .int .i64 wd, .slice A n c] 60)).trans hx1)
      have HBX := hide ((Blk.new w 60 #[.int .u32 q, .int .u32 a, .int .i64 f, .int .i64 wd, .slice A n c]).ext hx1)
      have HM1 := hide (HM.out.ext HX1.out)
      have hne : w.heap.size ≠ g := by omega
      clear hx1
      obtain ⟨gb, hgb⟩ : ∃ x, w.heap.size = x := ⟨_, rfl⟩
      rw [hgb] at HBX hne hgl ⊢
      have HGB := hide hgb
      clear hgb
      have b2 : w1.cell? ⟨gb, 2, none⟩ = some (.int .i64 f) := HBX.out.cell 2
      have c0 : w1.cell? ⟨g, 0, none⟩ = some (.int .i64 e.st) := HM1.out.box.cell 0
      rw [HSTE.out] at c0
      go_upto_region 6 with fail
      go_quiet (fail)
      have HXQ := hide ((Ext.refl w1).drewN nq)
      have HX2 := hide (HX1.out.trans HXQ.out)
      have HM2 := hide (HM1.out.ext HXQ.out)
      have HBX2 := hide (HBX.out.ext HXQ.out)
      generalize w1.drewN nq = W at *
      clear b2 c0 HX1 HXQ HBX HM1 HM
      have b0 : W.cell? ⟨gb, 0, none⟩ = some (.int .u32 q) := HBX2.out.cell 0
      have b1 : W.cell? ⟨gb, 1, none⟩ = some (.int .u32 a) := HBX2.out.cell 1
      have b2 : W.cell? ⟨gb, 2, none⟩ = some (.int .i64 f) := HBX2.out.cell 2
      have b3 : W.cell? ⟨gb, 3, none⟩ = some (.int .i64 wd) := HBX2.out.cell 3
      have b4 : W.cell? ⟨gb, 4, none⟩ = some (.slice A n c) := HBX2.out.cell 4
      have c0 : W.cell? ⟨g, 0, none⟩ = some (.int .i64 e.st) := HM2.out.box.cell 0
      rw [HSTE.out] at c0
      go_upto_region 12 with fail
      go_quiet (fail)
      go_upto_region 15 with fail
      go_quiet (fail)
      go_upto_region 17 with fail
      go_quiet (fail)
      go_wp2_with fail
      go_ret
      exact ⟨rfl, EndOp.via (KeepF.of_ext HX2.out) (EndOp.quiet HM2.out _)⟩
    · have k1 := and10 (f := f) (by omega)
      have k2 := and2 (f := f) (by omega)
      clear hf h3 hno h1
      have HW := hide hw
      have hgl : g < w.heap.size := hm.box.lt
      have HM := hide hm
      have HSTE := hide hst
      go_enter Try.func29, Try.ntmps29
      clear hm hw hst
      go_wp2_with fail
      refine (check_ok _ q a f wd A n c hfr HW.out hn).mono ?_
      rintro e' w1 ⟨rfl, hx1⟩
      have HX1 := hide (((Ext.refl w).alloc (.cells #[.int .u32 q, .int .u32 a, .int .i64 f, .int .i64 wd, .slice A n c] 60)).trans hx1)
      have HBX := hide ((Blk.new w 60 #[.int .u32 q, .int .u32 a, .int .i64 f, .int .i64 wd, .slice A n c]).ext hx1)
      have HM1 := hide (HM.out.ext HX1.out)
      have hne : w.heap.size ≠ g := by omega
      clear hx1
      obtain ⟨gb, hgb⟩ : ∃ x, w.heap.size = x := ⟨_, rfl⟩
      rw [hgb] at HBX hne hgl ⊢
      have HGB := hide hgb
      clear hgb
      have b2 : w1.cell? ⟨gb, 2, none⟩ = some (.int .i64 f) := HBX.out.cell 2
      have c0 : w1.cell? ⟨g, 0, none⟩ = some (.int .i64 e.st) := HM1.out.box.cell 0
      rw [HSTE.out] at c0
      go_upto_region 6 with fail
      go_quiet (fail)
      have HXQ := hide ((Ext.refl w1).drewN nq)
      have HX2 := hide (HX1.out.trans HXQ.out)
      have HM2 := hide (HM1.out.ext HXQ.out)
      have HBX2 := hide (HBX.out.ext HXQ.out)
      generalize w1.drewN nq = W at *
      clear b2 c0 HX1 HXQ HBX HM1 HM
      have b0 : W.cell? ⟨gb, 0, none⟩ = some (.int .u32 q) := HBX2.out.cell 0
      have b1 : W.cell? ⟨gb, 1, none⟩ = some (.int .u32 a) := HBX2.out.cell 1
      have b2 : W.cell? ⟨gb, 2, none⟩ = some (.int .i64 f) := HBX2.out.cell 2
      have b3 : W.cell? ⟨gb, 3, none⟩ = some (.int .i64 wd) := HBX2.out.cell 3
      have b4 : W.cell? ⟨gb, 4, none⟩ = some (.slice A n c) := HBX2.out.cell 4
      have c0 : W.cell? ⟨g, 0, none⟩ = some (.int .i64 e.st) := HM2.out.box.cell 0
      rw [HSTE.out] at c0
      go_upto_region 12 with fail
      go_quiet (fail)
      go_upto_region 15 with fail
      go_quiet (fail)
      go_upto_region 17 with fail
      go_quiet (fail)
      go_wp2_with fail
      go_ret
      exact ⟨rfl, EndOp.via (KeepF.of_ext HX2.out) (EndOp.quiet HM2.out _)⟩
end Go.Proofs.Ytacfffegmmdgfaa
