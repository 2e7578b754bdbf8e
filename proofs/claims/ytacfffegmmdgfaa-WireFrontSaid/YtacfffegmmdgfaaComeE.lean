/- The contract of (*End).Come at an end that is called, at what opens it. -/
import Derived.Test.YtacfffegmmdgfaaCome
namespace Go.Proofs.Ytacfffegmmdgfaa
open Go.RowKit
set_option linter.unusedVariables false

theorem heard_ok {e : EndD} (ok : e.Ok) (wd : Int) (hw : 0 ≤ wd ∧ wd ≤ 255) : (heardE e wd).Ok :=
  ⟨by simp [heardE], ok.first, ok.first, ok.top, ok.first, ok.rcv, ok.out, ok.inn, hw, by simp [heardE], by simp [heardE]⟩
set_option maxHeartbeats 4000000 in
set_option maxRecDepth 100000 in
/-- The acknowledgement that opens it. -/
theorem come_3 (w : World) (g : Nat) (e : EndD) (vo vi : Value) (q a f wd : Int) (A : Option Addr) (n c : Nat) (ds : List UInt8) (hm : EndM w g e vo vi) (ok : e.Ok) (hst : e.st = 3) (hq : U32 q) (hf : f = 2 ∨ f = 6) (ha : a = e.first) (ht : e.top = e.first) (hw : 0 ≤ wd ∧ wd ≤ 255) (hn : n ≤ 32)
    (hd : w.ownsRow 0 5 1 (.slice A n c) n (bytesV ds)) (hdf : ∀ k, Value.ownBlock (.slice A n c) = some k → ¬ foot g vo vi k) :
    Calls Try.prog 29 #[.pointer (some ⟨g, 0, none⟩), segV q a f wd (.slice A n c)] w (EndRet w g vo vi (.int .i64 0) (takeE (heardE e wd) q f ds)) := by
  have hfr : 0 ≤ f ∧ f ≤ 15 := by omega
  have k8 := and8 (f := f) (by omega)
  have k1 := and10 hf
  have k2 := and2 (f := f) (by omega)
  have HA := hide ha
  have HT := hide ht
  have HF := hide hf
  have HD := hide hd
  have HDF := hide hdf
  have HQ := hide hq
  have HOK := hide ok
  clear hf ha ht hd hdf hq ok
  have HW := hide hw
  have hgl : g < w.heap.size := hm.box.lt
  have HM := hide hm
  have HSTE := hide hst
  go_enter Try.func29, Try.ntmps29
  clear hm hw hst
  go_wp2_with fail
  refine (check_ok _ q a f wd A n c hfr HW.out hn).mono ?_
  rintro e' w1 ⟨rfl, hx1⟩
  have HX1 := hide (((Ext.refl w).alloc (.cells #[.int .u32 q, .int .u32 a, .int .i64 f, .int .i64 wd, .slice A n c] 60)).trans hx1)
  have HBX := hide ((Blk.new w 60 #[.int .u32 q, .int .u32 a, .int .i64 f, .int .i64 wd, .slice A n c]).ext hx1)
  have HM1 := hide (HM.out.ext HX1.out)
  have hne : w.heap.size ≠ g := by omega
  clear hx1
  obtain ⟨gb, hgb⟩ : ∃ x, w.heap.size = x := ⟨_, rfl⟩
  rw [hgb] at HBX hne hgl ⊢
  have HGB := hide hgb
  clear hgb
  have b2 : w1.cell? ⟨gb, 2, none⟩ = some (.int .i64 f) := HBX.out.cell 2
  have c0 : w1.cell? ⟨g, 0, none⟩ = some (.int .i64 e.st) := HM1.out.box.cell 0
  rw [HSTE.out] at c0
  go_upto_region 6 with fail
  go_quiet (fail)
  have HXQ := hide ((Ext.refl w1).drewN nq)
  have HX2 := hide (HX1.out.trans HXQ.out)
  have HM2 := hide (HM1.out.ext HXQ.out)
  have HBX2 := hide (HBX.out.ext HXQ.out)
  generalize w1.drewN nq = W at *
  clear b2 c0 HX1 HXQ HBX HM1 HM
  have b0 : W.cell? ⟨gb, 0, none⟩ = some (.int .u32 q) := HBX2.out.cell 0
  have b1 : W.cell? ⟨gb, 1, none⟩ = some (.int .u32 a) := HBX2.out.cell 1
  have b2 : W.cell? ⟨gb, 2, none⟩ = some (.int .i64 f) := HBX2.out.cell 2
  have b3 : W.cell? ⟨gb, 3, none⟩ = some (.int .i64 wd) := HBX2.out.cell 3
  have b4 : W.cell? ⟨gb, 4, none⟩ = some (.slice A n c) := HBX2.out.cell 4
  have c0 : W.cell? ⟨g, 0, none⟩ = some (.int .i64 e.st) := HM2.out.box.cell 0
  rw [HSTE.out] at c0
  have c1 : W.cell? ⟨g, 1, none⟩ = some (.int .u32 e.una) := HM2.out.box.cell 1
  have c2 : W.cell? ⟨g, 2, none⟩ = some (.int .u32 e.nxt) := HM2.out.box.cell 2
  have c3 : W.cell? ⟨g, 3, none⟩ = some (.int .u32 e.top) := HM2.out.box.cell 3
  have c4 : W.cell? ⟨g, 4, none⟩ = some (.int .u32 e.first) := HM2.out.box.cell 4
  have c8 : W.cell? ⟨g, 8, none⟩ = some (.int .i64 e.peer) := HM2.out.box.cell 8
  have c12 : W.cell? ⟨g, 12, none⟩ = some (.int .i64 e.wait) := HM2.out.box.cell 12
  have c13 : W.cell? ⟨g, 13, none⟩ = some (.int .i64 e.tries) := HM2.out.box.cell 13
  have f0 := HM2.out.box.frozen 0
  have f1 := HM2.out.box.frozen 1
  have f2 := HM2.out.box.frozen 2
  have f8 := HM2.out.box.frozen 8
  have f12 := HM2.out.box.frozen 12
  have f13 := HM2.out.box.frozen 13
  rw [HT.out] at c3
  rw [HA.out] at b1
  have tf : (e.first == e.first) = true := by simp
  generalize e.una = ua at c1
  generalize e.nxt = nx at c2
  generalize e.peer = pe at c8
  generalize e.wait = wt at c12
  generalize e.tries = tr at c13
  obtain ⟨fs, hfs⟩ : ∃ x, e.first = x := ⟨_, rfl⟩
  rw [hfs] at c3 c4 b1 tf
  have HFS := hide hfs
  clear hfs
  go_upto_region 12 with fail
  go_quiet (fail)
  go_upto_region 15 with fail
  go_quiet (fail)
  go_upto_region 17 with fail
  go_quiet (fail)
  go_upto_region 18 with fail
  go_cut [] (ComeCut W g { e with st := 4, peer := wd } vo vi gb #[.int .u32 q, .int .u32 a, .int .i64 f, .int .i64 wd, .slice A n c])
  case first =>
    go_region_held3 (fun w' => w'.cell? ⟨gb, 3, none⟩ = some (.int .i64 wd)) (first | ((repeat (first | with_reducible assumption | (with_reducible refine far3 ?_) | (with_reducible refine far4 ?_) | (with_reducible refine far2 ?_ (by decide) _) | (with_reducible refine far1 ?_ (by dsimp only; omega) _))); done) | fail) (fail)
    all_goals
      go_wp2_with fail
      go_meet
      exact ⟨EndB.s8 (EndB.s0 (HM2.out.box.drewN _) 4) wd, grown_set (grown_set (grown_drewN (World.grownBy.refl W _) _) _ _) _ _, ((HBX2.out.drewN _).far hne _).far hne _⟩
  case rest =>
  obtain ⟨h1, h2, h3⟩ := hcut
  have H1 := hide h1
  have H2 := hide h2
  have H3 := hide h3
  clear c1 c2 c3 c4 c8 c12 c13 b0 b1 b2 b3 b4
  generalize wc = w3 at *
  have c1 : w3.cell? ⟨g, 1, none⟩ = some (.int .u32 e.una) := h1.cell 1
  have c2 : w3.cell? ⟨g, 2, none⟩ = some (.int .u32 e.nxt) := h1.cell 2
  have c4 : w3.cell? ⟨g, 4, none⟩ = some (.int .u32 fs) := by rw [← HFS.out]; exact h1.cell 4
  have c12 : w3.cell? ⟨g, 12, none⟩ = some (.int .i64 e.wait) := h1.cell 12
  have c13 : w3.cell? ⟨g, 13, none⟩ = some (.int .i64 e.tries) := h1.cell 13
  have f1 := h1.frozen 1
  have f2 := h1.frozen 2
  have f12 := h1.frozen 12
  have f13 := h1.frozen 13
  clear h1 h2 h3
  generalize e.una = ua at c1
  generalize e.nxt = nx at c2
  generalize e.wait = wt at c12
  generalize e.tries = tr at c13
  go_upto_region 19 with fail
  go_cut [] (ComeCut w3 g (heardE e wd) vo vi gb #[.int .u32 q, .int .u32 a, .int .i64 f, .int .i64 wd, .slice A n c])
  case first =>
    go_region_held3 (fun w' => w'.cell? ⟨g, 4, none⟩ = some (.int .u32 fs)) (first | ((repeat (first | with_reducible assumption | (with_reducible refine far3 ?_) | (with_reducible refine far4 ?_) | (with_reducible refine far2 ?_ (by decide) _) | (with_reducible refine far1 ?_ (by dsimp only; omega) _))); done) | fail) (fail)
    all_goals
      go_wp2_with fail
      go_meet
      have h4 := EndB.s13 (EndB.s12 (EndB.s2 (EndB.s1 (H1.out.drewN 1) fs) fs) 0) 0
      exact ⟨by obtain rfl := HFS.out; exact h4, grown_set (grown_set (grown_set (grown_set (grown_drewN (World.grownBy.refl w3 _) 1) _ _) _ _) _ _) _ _, ((((H3.out.drewN 1).far hne _).far hne _).far hne _).far hne _⟩
  case rest =>
  obtain ⟨h5, h6, h7⟩ := hcut
  have hg := grown_trans' H2.out h6
  have HMH := hide (HM2.out.grown hg h5 rfl rfl)
  have HGH := hide hg
  have HDH := hide ((KeepF.of_grown (F := foot g vo vi) hg (.inl rfl)).own (HX2.out.own HD.out) HDF.out)
  have b0 : wc.cell? ⟨gb, 0, none⟩ = some (.int .u32 q) := h7.cell 0
  have b1 : wc.cell? ⟨gb, 1, none⟩ = some (.int .u32 a) := h7.cell 1
  have b2 : wc.cell? ⟨gb, 2, none⟩ = some (.int .i64 f) := h7.cell 2
  have b3 : wc.cell? ⟨gb, 3, none⟩ = some (.int .i64 wd) := h7.cell 3
  have b4 : wc.cell? ⟨gb, 4, none⟩ = some (.slice A n c) := h7.cell 4
  clear h5 h6 h7 hg c1 c2 c4 c12 c13 f0 f1 f2 f8 f12 f13
  go_wp2_with fail
  refine (take_any wc g (heardE e wd) vo vi q a f wd A n c ds HMH.out (heard_ok HOK.out wd HW.out) HQ.out (by rcases HF.out with h | h <;> simp [h]) hn HDH.out HDF.out).mono ?_
  rintro r w' ⟨rfl, hop⟩
  have HOP := hide hop
  clear hop
  go_wp2_with fail
  go_ret
  exact ⟨rfl, EndOp.via (KeepF.of_ext HX2.out) (EndOp.via (KeepF.of_grown HGH.out (.inl rfl)) HOP.out)⟩
end Go.Proofs.Ytacfffegmmdgfaa
