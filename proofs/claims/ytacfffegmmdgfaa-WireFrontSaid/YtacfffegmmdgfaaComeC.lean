/- Contracts of (*End).Come at an end that calls and is answered, at one that is told to be gone. -/
import Derived.Test.YtacfffegmmdgfaaCome
namespace Go.Proofs.Ytacfffegmmdgfaa
open Go.RowKit
set_option linter.unusedVariables false

set_option maxHeartbeats 4000000 in
set_option maxRecDepth 100000 in
/-- A calling end that is answered. -/
theorem come_2 (w : World) (g : Nat) (e : EndD) (vo vi : Value) (q a f wd : Int) (A : Option Addr) (n c : Nat) (hm : EndM w g e vo vi) (hst : e.st = 2) (hq : U32 q) (hf : f = 3) (ha : a = e.first) (ht : e.top = e.first) (hw : 0 ≤ wd ∧ wd ≤ 255) (hn : n ≤ 32) :
    Calls Try.prog 29 #[.pointer (some ⟨g, 0, none⟩), segV q a f wd (.slice A n c)] w (EndRet w g vo vi (.int .i64 0) (openE e q wd)) := by
  have hfr : 0 ≤ f ∧ f ≤ 15 := by omega
  have k8 := and8 (f := f) (by omega)
  have k1 := and1 (f := f) (.inr hf)
  have k2 := and2 (f := f) (.inr (.inl hf))
  obtain ⟨q1, q2⟩ := hq
  have HA := hide ha
  have HT := hide ht
  clear hf ha ht
  have HW := hide hw
  have hgl : g < w.heap.size := hm.box.lt
  have HM := hide hm
  have HSTE := hide hst
  go_enter Try.func29, Try.ntmps29
  clear hm hw hst
  go_wp2_with fail
  refine (check_ok _ q a f wd A n c hfr HW.out hn).mono ?_
  rintro e' w1 ⟨rfl, hx1⟩
  have HX1 := hide (((Ext.refl w).alloc (.cells #[.int .u32 q, .int .u32 a, .int .i64 f, .int .i64 wd, .slice A n c] 60)).trans hx1)
  have HBX := hide ((Blk.new w 60 #[.int .u32 q, .int .u32 a, .int .i64 f, .int .i64 wd, .slice A n c]).ext hx1)
  have HM1 := hide (HM.out.ext HX1.out)
  have hne : w.heap.size ≠ g := by omega
  clear hx1
  obtain ⟨gb, hgb⟩ : ∃ x, w.heap.size = x := ⟨_, rfl⟩
  rw [hgb] at HBX hne hgl ⊢
  have HGB := hide hgb
  clear hgb
  have b2 : w1.cell? ⟨gb, 2, none⟩ = some (.int .i64 f) := HBX.out.cell 2
  have c0 : w1.cell? ⟨g, 0, none⟩ = some (.int .i64 e.st) := HM1.out.box.cell 0
  rw [HSTE.out] at c0
  go_upto_region 6 with fail
  go_quiet (fail)
  have HXQ := hide ((Ext.refl w1).drewN nq)
  have HX2 := hide (HX1.out.trans HXQ.out)
  have HM2 := hide (HM1.out.ext HXQ.out)
  have HBX2 := hide (HBX.out.ext HXQ.out)
  generalize w1.drewN nq = W at *
  clear b2 c0 HX1 HXQ HBX HM1 HM
  have b0 : W.cell? ⟨gb, 0, none⟩ = some (.int .u32 q) := HBX2.out.cell 0
  have b1 : W.cell? ⟨gb, 1, none⟩ = some (.int .u32 a) := HBX2.out.cell 1
  have b2 : W.cell? ⟨gb, 2, none⟩ = some (.int .i64 f) := HBX2.out.cell 2
  have b3 : W.cell? ⟨gb, 3, none⟩ = some (.int .i64 wd) := HBX2.out.cell 3
  have b4 : W.cell? ⟨gb, 4, none⟩ = some (.slice A n c) := HBX2.out.cell 4
  have c0 : W.cell? ⟨g, 0, none⟩ = some (.int .i64 e.st) := HM2.out.box.cell 0
  rw [HSTE.out] at c0
  have c1 : W.cell? ⟨g, 1, none⟩ = some (.int .u32 e.una) := HM2.out.box.cell 1
  have c2 : W.cell? ⟨g, 2, none⟩ = some (.int .u32 e.nxt) := HM2.out.box.cell 2
  have c3 : W.cell? ⟨g, 3, none⟩ = some (.int .u32 e.top) := HM2.out.box.cell 3
  have c4 : W.cell? ⟨g, 4, none⟩ = some (.int .u32 e.first) := HM2.out.box.cell 4
  have c5 : W.cell? ⟨g, 5, none⟩ = some (.int .u32 e.rcv) := HM2.out.box.cell 5
  have c8 : W.cell? ⟨g, 8, none⟩ = some (.int .i64 e.peer) := HM2.out.box.cell 8
  have c11 : W.cell? ⟨g, 11, none⟩ = some (.bool e.due) := HM2.out.box.cell 11
  have c12 : W.cell? ⟨g, 12, none⟩ = some (.int .i64 e.wait) := HM2.out.box.cell 12
  have c13 : W.cell? ⟨g, 13, none⟩ = some (.int .i64 e.tries) := HM2.out.box.cell 13
  have f0 := HM2.out.box.frozen 0
  have f1 := HM2.out.box.frozen 1
  have f2 := HM2.out.box.frozen 2
  have f3 := HM2.out.box.frozen 3
  have f5 := HM2.out.box.frozen 5
  have f8 := HM2.out.box.frozen 8
  have f11 := HM2.out.box.frozen 11
  have f12 := HM2.out.box.frozen 12
  have f13 := HM2.out.box.frozen 13
  rw [HT.out] at c3
  rw [HA.out] at b1
  have tf : (e.first == e.first) = true := by simp
  generalize e.una = ua at c1
  generalize e.nxt = nx at c2
  generalize e.rcv = rv at c5
  generalize e.peer = pe at c8
  generalize e.due = du at c11
  generalize e.wait = wt at c12
  generalize e.tries = tr at c13
  obtain ⟨fs, hfs⟩ : ∃ x, e.first = x := ⟨_, rfl⟩
  rw [hfs] at c3 c4 b1 tf
  have HFS := hide hfs
  clear hfs
  go_upto_region 12 with fail
  go_quiet (fail)
  go_upto_region 13 with fail
  have HMQ := hide (HM2.out.ext ((Ext.refl W).drewN nq))
  have HBQ := hide (HBX2.out.drewN nq)
  go_cut [] (ComeCut W g { e with st := 4, rcv := (q + 1) % 4294967296, peer := wd, due := true } vo vi gb #[.int .u32 q, .int .u32 a, .int .i64 f, .int .i64 wd, .slice A n c])
  case first =>
    go_region_held3 (fun w' => w'.cell? ⟨gb, 0, none⟩ = some (.int .u32 q) ∧ w'.cell? ⟨gb, 3, none⟩ = some (.int .i64 wd)) (first | (refine ⟨?_, ?_⟩ <;> ((repeat (first | with_reducible assumption | (with_reducible refine far3 ?_) | (with_reducible refine far4 ?_) | (with_reducible refine far2 ?_ (by decide) _) | (with_reducible refine far1 ?_ (by dsimp only; omega) _))); done)) | fail) (fail)
    go_wp2_with fail
    go_meet
    have h1 := EndB.s11 (EndB.s8 (EndB.s5 (EndB.s0 (HM2.out.box.drewN (nq + 1)) 4) (IntKind.u32.wrap (q + 1))) wd) true
    rw [IntKind.wrap_u32] at h1
    exact ⟨h1, grown_set (grown_set (grown_set (grown_set (grown_drewN (World.grownBy.refl W _) _) _ _) _ _) _ _) _ _, ((((HBX2.out.drewN _).far hne _).far hne _).far hne _).far hne _⟩
  case rest =>
  obtain ⟨h1, h2, h3⟩ := hcut
  have H1 := hide h1
  have H2 := hide h2
  clear h3
  have c1 : wc.cell? ⟨g, 1, none⟩ = some (.int .u32 e.una) := h1.cell 1
  have c2 : wc.cell? ⟨g, 2, none⟩ = some (.int .u32 e.nxt) := h1.cell 2
  have c3 : wc.cell? ⟨g, 3, none⟩ = some (.int .u32 e.top) := h1.cell 3
  have c4 : wc.cell? ⟨g, 4, none⟩ = some (.int .u32 fs) := by rw [← HFS.out]; exact h1.cell 4
  have c12 : wc.cell? ⟨g, 12, none⟩ = some (.int .i64 e.wait) := h1.cell 12
  have c13 : wc.cell? ⟨g, 13, none⟩ = some (.int .i64 e.tries) := h1.cell 13
  have f1 := h1.frozen 1
  have f2 := h1.frozen 2
  have f3 := h1.frozen 3
  have f12 := h1.frozen 12
  have f13 := h1.frozen 13
  clear h1 h2 HMQ HBQ
  generalize e.una = ua at c1
  generalize e.nxt = nx at c2
  generalize e.top = tp at c3
  generalize e.wait = wt at c12
  generalize e.tries = tr at c13
  go_upto_region 14 with fail
  go_region_held3 (fun w' => w'.cell? ⟨g, 4, none⟩ = some (.int .u32 fs)) (first | ((repeat (first | with_reducible assumption | (with_reducible refine far3 ?_) | (with_reducible refine far4 ?_) | (with_reducible refine far2 ?_ (by decide) _) | (with_reducible refine far1 ?_ (by dsimp only; omega) _))); done) | fail) (fail)
  all_goals
    go_wp2_with fail
    go_ret
    have h4 := EndB.s13 (EndB.s12 (EndB.s3 (EndB.s2 (EndB.s1 (H1.out.drewN 1) fs) fs) fs) 0) 0
    exact ⟨rfl, EndOp.via (KeepF.of_ext HX2.out) (EndOp.of_grown (e' := openE e q wd) HM2.out (grown_set (grown_set (grown_set (grown_set (grown_set (grown_drewN H2.out 1) _ _) _ _) _ _) _ _) _ _) (by obtain rfl := HFS.out; exact h4) rfl rfl)⟩
set_option maxHeartbeats 2000000 in
set_option maxRecDepth 100000 in
/-- A segment that says: be gone. -/
theorem come_8 (w : World) (g : Nat) (e : EndD) (vo vi : Value) (q a f wd : Int) (A : Option Addr) (n c : Nat) (hm : EndM w g e vo vi) (hs : 1 ≤ e.st ∧ e.st ≤ 4) (hf : f = 8) (hw : 0 ≤ wd ∧ wd ≤ 255) (hn : n ≤ 32) :
    Calls Try.prog 29 #[.pointer (some ⟨g, 0, none⟩), segV q a f wd (.slice A n c)] w (EndRet w g vo vi (.int .i64 0) (if e.st = 1 then e else { e with st := 5 })) := by
  have hfr : 0 ≤ f ∧ f ≤ 15 := by omega
  have k1 : bits BinOp.and IntKind.i64 f 1 = 0 := by subst hf; decide
  have k2 : bits BinOp.and IntKind.i64 f 2 = 0 := by subst hf; decide
  have k8 : bits BinOp.and IntKind.i64 f 8 = 8 := by subst hf; decide
  clear hf
  by_cases h1 : e.st = 1
  · rw [if_pos h1]
    obtain ⟨s, hst⟩ : ∃ s, e.st = s := ⟨_, rfl⟩
    have hs1 : s = 1 := by omega
    subst hs1
    clear h1 hs
    have HW := hide hw
    have hgl : g < w.heap.size := hm.box.lt
    have HM := hide hm
    have HSTE := hide hst
    go_enter Try.func29, Try.ntmps29
    clear hm hw hst
    go_wp2_with fail
    refine (check_ok _ q a f wd A n c hfr HW.out hn).mono ?_
    rintro e' w1 ⟨rfl, hx1⟩
    have HX1 := hide (((Ext.refl w).alloc (.cells #[.int .u32 q, .int .u32 a, .int .i64 f, .int .i64 wd, .slice A n c] 60)).trans hx1)
    have HBX := hide ((Blk.new w 60 #[.int .u32 q, .int .u32 a, .int .i64 f, .int .i64 wd, .slice A n c]).ext hx1)
    have HM1 := hide (HM.out.ext HX1.out)
    have hne : w.heap.size ≠ g := by omega
    clear hx1
    obtain ⟨gb, hgb⟩ : ∃ x, w.heap.size = x := ⟨_, rfl⟩
    rw [hgb] at HBX hne hgl ⊢
    have HGB := hide hgb
    clear hgb
    have b2 : w1.cell? ⟨gb, 2, none⟩ = some (.int .i64 f) := HBX.out.cell 2
    have c0 : w1.cell? ⟨g, 0, none⟩ = some (.int .i64 e.st) := HM1.out.box.cell 0
    rw [HSTE.out] at c0
    go_upto_region 6 with fail
    go_quiet (fail)
    have HXQ := hide ((Ext.refl w1).drewN nq)
    have HX2 := hide (HX1.out.trans HXQ.out)
    have HM2 := hide (HM1.out.ext HXQ.out)
    have HBX2 := hide (HBX.out.ext HXQ.out)
    generalize w1.drewN nq = W at *
    clear b2 c0 HX1 HXQ HBX HM1 HM
    have b0 : W.cell? ⟨gb, 0, none⟩ = some (.int .u32 q) := HBX2.out.cell 0
    have b1 : W.cell? ⟨gb, 1, none⟩ = some (.int .u32 a) := HBX2.out.cell 1
    have b2 : W.cell? ⟨gb, 2, none⟩ = some (.int .i64 f) := HBX2.out.cell 2
    have b3 : W.cell? ⟨gb, 3, none⟩ = some (.int .i64 wd) := HBX2.out.cell 3
    have b4 : W.cell? ⟨gb, 4, none⟩ = some (.slice A n c) := HBX2.out.cell 4
    have c0 : W.cell? ⟨g, 0, none⟩ = some (.int .i64 e.st) := HM2.out.box.cell 0
    rw [HSTE.out] at c0
    go_wp2_with fail
    go_ret
    exact ⟨rfl, EndOp.via (KeepF.of_ext HX2.out) (EndOp.same HM2.out)⟩
  · rw [if_neg h1]
    obtain ⟨s, hst⟩ : ∃ s, e.st = s := ⟨_, rfl⟩
    rw [hst] at h1 hs
    have t0 : (s == 0) = false := by simp; omega
    have t5 : (s == 5) = false := by simp; omega
    have t1 : (s == 1) = false := by simp; omega
    have t1' : (s != 1) = true := by simp; omega
    clear h1 hs
    have HW := hide hw
    have hgl : g < w.heap.size := hm.box.lt
    have HM := hide hm
    have HSTE := hide hst
    go_enter Try.func29, Try.ntmps29
    clear hm hw hst
    go_wp2_with fail
    refine (check_ok _ q a f wd A n c hfr HW.out hn).mono ?_
    rintro e' w1 ⟨rfl, hx1⟩
    have HX1 := hide (((Ext.refl w).alloc (.cells #[.int .u32 q, .int .u32 a, .int .i64 f, .int .i64 wd, .slice A n c] 60)).trans hx1)
    have HBX := hide ((Blk.new w 60 #[.int .u32 q, .int .u32 a, .int .i64 f, .int .i64 wd, .slice A n c]).ext hx1)
    have HM1 := hide (HM.out.ext HX1.out)
    have hne : w.heap.size ≠ g := by omega
    clear hx1
    obtain ⟨gb, hgb⟩ : ∃ x, w.heap.size = x := ⟨_, rfl⟩
    rw [hgb] at HBX hne hgl ⊢
    have HGB := hide hgb
    clear hgb
    have b2 : w1.cell? ⟨gb, 2, none⟩ = some (.int .i64 f) := HBX.out.cell 2
    have c0 : w1.cell? ⟨g, 0, none⟩ = some (.int .i64 e.st) := HM1.out.box.cell 0
    rw [HSTE.out] at c0
    go_upto_region 6 with fail
    go_quiet (fail)
    have HXQ := hide ((Ext.refl w1).drewN nq)
    have HX2 := hide (HX1.out.trans HXQ.out)
    have HM2 := hide (HM1.out.ext HXQ.out)
    have HBX2 := hide (HBX.out.ext HXQ.out)
    generalize w1.drewN nq = W at *
    clear b2 c0 HX1 HXQ HBX HM1 HM
    have b0 : W.cell? ⟨gb, 0, none⟩ = some (.int .u32 q) := HBX2.out.cell 0
    have b1 : W.cell? ⟨gb, 1, none⟩ = some (.int .u32 a) := HBX2.out.cell 1
    have b2 : W.cell? ⟨gb, 2, none⟩ = some (.int .i64 f) := HBX2.out.cell 2
    have b3 : W.cell? ⟨gb, 3, none⟩ = some (.int .i64 wd) := HBX2.out.cell 3
    have b4 : W.cell? ⟨gb, 4, none⟩ = some (.slice A n c) := HBX2.out.cell 4
    have c0 : W.cell? ⟨g, 0, none⟩ = some (.int .i64 e.st) := HM2.out.box.cell 0
    rw [HSTE.out] at c0
    have f0 := HM2.out.box.frozen 0
    go_wp2_with fail
    go_ret
    exact ⟨rfl, EndOp.via (KeepF.of_ext HX2.out) (EndOp.of_grown HM2.out (grown_set (World.grownBy.refl W _) _ _) (HM2.out.box.s0 5) rfl rfl)⟩
end Go.Proofs.Ytacfffegmmdgfaa
