/- The contract of (*End).Come at an open end, and at any end. -/
import Derived.Test.YtacfffegmmdgfaaComeB
import Derived.Test.YtacfffegmmdgfaaComeC
import Derived.Test.YtacfffegmmdgfaaComeD
import Derived.Test.YtacfffegmmdgfaaComeE
namespace Go.Proofs.Ytacfffegmmdgfaa
open Go.RowKit
set_option linter.unusedVariables false

theorem ansM_le {e : EndD} (a : Int) : ansK e a ≤ e.out.length := Nat.min_le_right _ _
theorem answer_ok {e : EndD} (ok : e.Ok) (a wd : Int) (ha : U32 a) (hw : 0 ≤ wd ∧ wd ≤ 255) : (answerE e a wd).Ok := by
  unfold answerE
  split
  · exact ok
  · split
    · exact ⟨ok.st, ok.una, ok.nxt, ok.top, ok.first, ok.rcv, ok.out, ok.inn, hw, ok.wait, by simp⟩
    · refine ⟨ok.st, ha, ?_, ok.top, ?_, ok.rcv, ?_, ok.inn, hw, by simp [ansTo], by simp [ansTo]⟩
      · unfold ansTo; dsimp only; split
        · exact ha
        · exact ok.nxt
      · unfold ansTo U32; dsimp only; omega
      · unfold ansTo; dsimp only; rw [List.length_drop]; have := ok.out; omega
set_option maxHeartbeats 4000000 in
set_option maxRecDepth 100000 in
/-- A call at an open end. -/
theorem come_4s (w : World) (g : Nat) (e : EndD) (vo vi : Value) (q a f wd : Int) (A : Option Addr) (n c : Nat) (ds : List UInt8) (hm : EndM w g e vo vi) (ok : e.Ok) (hst : e.st = 4) (hq : U32 q) (hf : f = 1 ∨ f = 3) (hw : 0 ≤ wd ∧ wd ≤ 255) (hn : n ≤ 32)
    (hd : w.ownsRow 0 5 1 (.slice A n c) n (bytesV ds)) (hdf : ∀ k, Value.ownBlock (.slice A n c) = some k → ¬ foot g vo vi k) :
    Calls Try.prog 29 #[.pointer (some ⟨g, 0, none⟩), segV q a f wd (.slice A n c)] w (EndRet w g vo vi (.int .i64 0) (takeE e q f ds)) := by
  have hfr : 0 ≤ f ∧ f ≤ 15 := by omega
  have k8 := and8 (f := f) (by omega)
  have k1 := and1 hf
  obtain ⟨x2, k2⟩ : ∃ x2, bits BinOp.and IntKind.i64 f 2 = x2 := ⟨_, rfl⟩
  have hx2 : x2 = 0 ∨ x2 = 2 := by rw [← k2]; rcases hf with h | h <;> subst h <;> decide
  have HF := hide hf
  have HD := hide hd
  have HDF := hide hdf
  have HQ := hide hq
  have HOK := hide ok
  clear hf hd hdf hq ok
  have HW := hide hw
  have hgl : g < w.heap.size := hm.box.lt
  have HM := hide hm
  have HSTE := hide hst
  go_enter Try.func29, Try.ntmps29
  clear hm hw hst
  go_wp2_with fail
  refine (check_ok _ q a f wd A n c hfr HW.out hn).mono ?_
  rintro e' w1 ⟨rfl, hx1⟩
  have HX1 := hide (((Ext.refl w).alloc (.cells #[.int .u32 q, .int .u32 a, .int .i64 f, .int .i64 wd, .slice A n c] 60)).trans hx1)
  have HBX := hide ((Blk.new w 60 #[.int .u32 q, .int .u32 a, .int .i64 f, .int .i64 wd, .slice A n c]).ext hx1)
  have HM1 := hide (HM.out.ext HX1.out)
  have hne : w.heap.size ≠ g := by omega
  clear hx1
  obtain ⟨gb, hgb⟩ : ∃ x, w.heap.size = x := ⟨_, rfl⟩
  rw [hgb] at HBX hne hgl ⊢
  have HGB := hide hgb
  clear hgb
  have b2 : w1.cell? ⟨gb, 2, none⟩ = some (.int .i64 f) := HBX.out.cell 2
  have c0 : w1.cell? ⟨g, 0, none⟩ = some (.int .i64 e.st) := HM1.out.box.cell 0
  rw [HSTE.out] at c0
  go_upto_region 6 with fail
  go_quiet (fail)
  have HXQ := hide ((Ext.refl w1).drewN nq)
  have HX2 := hide (HX1.out.trans HXQ.out)
  have HM2 := hide (HM1.out.ext HXQ.out)
  have HBX2 := hide (HBX.out.ext HXQ.out)
  generalize w1.drewN nq = W at *
  clear b2 c0 HX1 HXQ HBX HM1 HM
  have b0 : W.cell? ⟨gb, 0, none⟩ = some (.int .u32 q) := HBX2.out.cell 0
  have b1 : W.cell? ⟨gb, 1, none⟩ = some (.int .u32 a) := HBX2.out.cell 1
  have b2 : W.cell? ⟨gb, 2, none⟩ = some (.int .i64 f) := HBX2.out.cell 2
  have b3 : W.cell? ⟨gb, 3, none⟩ = some (.int .i64 wd) := HBX2.out.cell 3
  have b4 : W.cell? ⟨gb, 4, none⟩ = some (.slice A n c) := HBX2.out.cell 4
  have c0 : W.cell? ⟨g, 0, none⟩ = some (.int .i64 e.st) := HM2.out.box.cell 0
  rw [HSTE.out] at c0
  rcases hx2 with h | h
  all_goals
    subst h
    go_upto_region 12 with fail
    go_quiet (fail)
    go_upto_region 15 with fail
    go_quiet (fail)
    go_upto_region 17 with fail
    go_quiet (fail)
    go_wp2_with fail
    refine (take_any _ g e vo vi q a f wd A n c ds (HM2.out.ext ((Ext.refl W).drewN _)) HOK.out HQ.out (by rcases HF.out with h | h <;> simp [h]) hn (((Ext.refl W).drewN _).own (HX2.out.own HD.out)) HDF.out).mono ?_
    rintro r w' ⟨rfl, hop⟩
    have HOP := hide hop
    clear hop
    go_wp2_with fail
    go_ret
    exact ⟨rfl, EndOp.via (KeepF.of_ext (HX2.out.drewN _)) HOP.out⟩
set_option maxHeartbeats 4000000 in
set_option maxRecDepth 100000 in
/-- Data and acknowledgements at an open end. -/
theorem come_4 (w : World) (g : Nat) (e : EndD) (vo vi : Value) (q a f wd : Int) (A : Option Addr) (n c : Nat) (ds : List UInt8) (hm : EndM w g e vo vi) (ok : e.Ok) (hst : e.st = 4) (hq : U32 q) (ha : U32 a) (hf : f = 2 ∨ f = 6) (hw : 0 ≤ wd ∧ wd ≤ 255) (hn : n ≤ 32)
    (hd : w.ownsRow 0 5 1 (.slice A n c) n (bytesV ds)) (hdf : ∀ k, Value.ownBlock (.slice A n c) = some k → ¬ foot g vo vi k) :
    Calls Try.prog 29 #[.pointer (some ⟨g, 0, none⟩), segV q a f wd (.slice A n c)] w (EndRet w g vo vi (.int .i64 0) (takeE (answerE e a wd) q f ds)) := by
  have hfr : 0 ≤ f ∧ f ≤ 15 := by omega
  have k8 := and8 (f := f) (by omega)
  have k1 := and10 hf
  have k2 := and2 (f := f) (by omega)
  have HF := hide hf
  have HD := hide hd
  have HDF := hide hdf
  have HQ := hide hq
  have HA := hide ha
  have HOK := hide ok
  clear hf hd hdf hq ha ok
  have HW := hide hw
  have hgl : g < w.heap.size := hm.box.lt
  have HM := hide hm
  have HSTE := hide hst
  go_enter Try.func29, Try.ntmps29
  clear hm hw hst
  go_wp2_with fail
  refine (check_ok _ q a f wd A n c hfr HW.out hn).mono ?_
  rintro e' w1 ⟨rfl, hx1⟩
  have HX1 := hide (((Ext.refl w).alloc (.cells #[.int .u32 q, .int .u32 a, .int .i64 f, .int .i64 wd, .slice A n c] 60)).trans hx1)
  have HBX := hide ((Blk.new w 60 #[.int .u32 q, .int .u32 a, .int .i64 f, .int .i64 wd, .slice A n c]).ext hx1)
  have HM1 := hide (HM.out.ext HX1.out)
  have hne : w.heap.size ≠ g := by omega
  clear hx1
  obtain ⟨gb, hgb⟩ : ∃ x, w.heap.size = x := ⟨_, rfl⟩
  rw [hgb] at HBX hne hgl ⊢
  have HGB := hide hgb
  clear hgb
  have b2 : w1.cell? ⟨gb, 2, none⟩ = some (.int .i64 f) := HBX.out.cell 2
  have c0 : w1.cell? ⟨g, 0, none⟩ = some (.int .i64 e.st) := HM1.out.box.cell 0
  rw [HSTE.out] at c0
  go_upto_region 6 with fail
  go_quiet (fail)
  have HXQ := hide ((Ext.refl w1).drewN nq)
  have HX2 := hide (HX1.out.trans HXQ.out)
  have HM2 := hide (HM1.out.ext HXQ.out)
  have HBX2 := hide (HBX.out.ext HXQ.out)
  generalize w1.drewN nq = W at *
  clear b2 c0 HX1 HXQ HBX HM1 HM
  have b0 : W.cell? ⟨gb, 0, none⟩ = some (.int .u32 q) := HBX2.out.cell 0
  have b1 : W.cell? ⟨gb, 1, none⟩ = some (.int .u32 a) := HBX2.out.cell 1
  have b2 : W.cell? ⟨gb, 2, none⟩ = some (.int .i64 f) := HBX2.out.cell 2
  have b3 : W.cell? ⟨gb, 3, none⟩ = some (.int .i64 wd) := HBX2.out.cell 3
  have b4 : W.cell? ⟨gb, 4, none⟩ = some (.slice A n c) := HBX2.out.cell 4
  have c0 : W.cell? ⟨g, 0, none⟩ = some (.int .i64 e.st) := HM2.out.box.cell 0
  rw [HSTE.out] at c0
  go_upto_region 12 with fail
  go_quiet (fail)
  go_upto_region 15 with fail
  go_quiet (fail)
  go_upto_region 17 with fail
  go_quiet (fail)
  go_wp2_with fail
  refine (answer_any _ g e vo vi q a f wd A n c (HM2.out.ext ((Ext.refl W).drewN _)) HOK.out HA.out HF.out HW.out).mono ?_
  rintro r w4 ⟨rfl, vo4, vi4, hm4, hk4, hf4⟩
  have hbx : Blk w4 gb 60 _ := hk4.blk (HBX2.out.drewN _) (by
    intro hx
    rcases hx with h | h | h
    · exact hne h
    · exact own_blk_ne HM2.out.out HBX2.out (by decide) h
    · exact own_blk_ne HM2.out.inn HBX2.out (by decide) h)
  have HM4 := hide hm4
  have HK4 := hide hk4
  have HF4 := hide hf4
  have HD4 := hide (hk4.own (((Ext.refl W).drewN _).own (HX2.out.own HD.out)) HDF.out)
  have HDF4 := hide (show ∀ k, Value.ownBlock (.slice A n c) = some k → ¬ foot g vo4 vi4 k from fun k hk hx => by
    rcases hf4 k hx with h | h
    · exact HDF.out k hk h
    · have h1 := (HD.out.lt k hk).2
      have h2 := HX2.out.size
      have e9 : ∀ m, (W.drewN m).heap.size = W.heap.size := fun _ => rfl
      rw [e9] at h
      omega)
  clear b0 b1 b2 b3 b4 hm4 hk4 hf4
  have b0 : w4.cell? ⟨gb, 0, none⟩ = some (.int .u32 q) := hbx.cell 0
  have b1 : w4.cell? ⟨gb, 1, none⟩ = some (.int .u32 a) := hbx.cell 1
  have b2 : w4.cell? ⟨gb, 2, none⟩ = some (.int .i64 f) := hbx.cell 2
  have b3 : w4.cell? ⟨gb, 3, none⟩ = some (.int .i64 wd) := hbx.cell 3
  have b4 : w4.cell? ⟨gb, 4, none⟩ = some (.slice A n c) := hbx.cell 4
  clear hbx
  go_wp2_with fail
  refine (take_any w4 g (answerE e a wd) vo4 vi4 q a f wd A n c ds HM4.out (answer_ok HOK.out a wd HA.out HW.out) HQ.out (by rcases HF.out with h | h <;> simp [h]) hn HD4.out HDF4.out).mono ?_
  rintro r w' ⟨rfl, hop⟩
  have HOP := hide hop
  clear hop
  go_wp2_with fail
  go_ret
  obtain ⟨vo5, vi5, hm5, hk5, hf5⟩ := HOP.out
  have e9 : ∀ m, (W.drewN m).heap.size = W.heap.size := fun _ => rfl
  have hs2 := HX2.out.size
  refine ⟨rfl, vo5, vi5, hm5, (KeepF.of_ext (F := foot g vo vi) (HX2.out.drewN _)).trans (HK4.out.trans hk5 (fun x hx h => (HF4.out x h).resolve_right (by rw [e9]; rw [e9] at hx; omega))) (fun _ _ h => h), fun k hk => ?_⟩
  rcases hf5 k hk with h | h
  · rcases HF4.out k h with h | h
    · exact .inl h
    · rw [e9] at h
      exact .inr (by omega)
  · have := HK4.out.size
    rw [e9] at this
    exact .inr (by omega)
/-- Any segment that an end says, or one that says: be gone, comes to any end. -/
theorem come_any (w : World) (g : Nat) (e : EndD) (vo vi : Value) (q a f wd : Int) (A : Option Addr) (n c : Nat) (ds : List UInt8) (hm : EndM w g e vo vi) (ok : e.Ok) (hq : U32 q) (ha : U32 a) (hf : f = 0 ∧ (e.st = 0 ∨ e.st = 5) ∨ f = 1 ∨ f = 2 ∨ f = 3 ∨ f = 6 ∨ f = 8) (hw : 0 ≤ wd ∧ wd ≤ 255) (hn : n ≤ 32)
    (hd : w.ownsRow 0 5 1 (.slice A n c) n (bytesV ds)) (hdf : ∀ k, Value.ownBlock (.slice A n c) = some k → ¬ foot g vo vi k) :
    Calls Try.prog 29 #[.pointer (some ⟨g, 0, none⟩), segV q a f wd (.slice A n c)] w (EndRet w g vo vi (.int .i64 (comeN e)) (comeE e q a f wd ds)) := by
  have hs := ok.st
  by_cases h05 : e.st = 0 ∨ e.st = 5
  · rw [show comeN e = 8 by simp [comeN, h05], show comeE e q a f wd ds = e by simp [comeE, h05]]
    exact come_closed w g e vo vi q a f wd A n c hm h05 (by omega) hw hn
  rw [show comeN e = 0 by simp [comeN, h05]]
  by_cases h8 : f = 8
  · rw [show comeE e q a f wd ds = if e.st = 1 then e else { e with st := 5 } by unfold comeE; rw [if_neg h05, if_pos h8]]
    exact come_8 w g e vo vi q a f wd A n c hm (by omega) h8 hw hn
  have hf4 : f = 1 ∨ f = 2 ∨ f = 3 ∨ f = 6 := by omega
  by_cases h1 : e.st = 1
  · by_cases hf1 : f = 1
    · rw [show comeE e q a f wd ds = meetE e q wd by unfold comeE; rw [if_neg h05, if_neg h8, if_pos h1, if_pos hf1]]
      exact come_1 w g e vo vi q a f wd A n c hm h1 hq hf1 hw hn
    · rw [show comeE e q a f wd ds = e by unfold comeE; rw [if_neg h05, if_neg h8, if_pos h1, if_neg hf1]]
      exact come_1n w g e vo vi q a f wd A n c hm h1 (by omega) hw hn
  by_cases h2 : e.st = 2
  · by_cases hy : f = 3 ∧ a = e.first ∧ e.top = e.first
    · rw [show comeE e q a f wd ds = openE e q wd by unfold comeE; rw [if_neg h05, if_neg h8, if_neg h1, if_pos h2, if_pos hy]]
      exact come_2 w g e vo vi q a f wd A n c hm h2 hq hy.1 hy.2.1 hy.2.2 hw hn
    · rw [show comeE e q a f wd ds = e by unfold comeE; rw [if_neg h05, if_neg h8, if_neg h1, if_pos h2, if_neg hy]]
      exact come_2n w g e vo vi q a f wd A n c hm h2 hf4 hy hw hn
  by_cases h3 : e.st = 3
  · by_cases hsy : f = 1 ∨ f = 3
    · rw [show comeE e q a f wd ds = if (q + 1) % 4294967296 = e.rcv then { e with nxt := e.una } else e by unfold comeE; rw [if_neg h05, if_neg h8, if_neg h1, if_neg h2, if_pos h3, if_pos (by omega)]]
      exact come_3s w g e vo vi q a f wd A n c hm h3 hq hsy hw hn
    · by_cases hy : a = e.first ∧ e.top = e.first
      · rw [show comeE e q a f wd ds = takeE (heardE e wd) q f ds by unfold comeE; rw [if_neg h05, if_neg h8, if_neg h1, if_neg h2, if_pos h3, if_neg (by omega), if_pos hy]]
        exact come_3 w g e vo vi q a f wd A n c ds hm ok h3 hq (by omega) hy.1 hy.2 hw hn hd hdf
      · rw [show comeE e q a f wd ds = e by unfold comeE; rw [if_neg h05, if_neg h8, if_neg h1, if_neg h2, if_pos h3, if_neg (by omega), if_neg hy]]
        exact come_3n w g e vo vi q a f wd A n c hm h3 (by omega) hy hw hn
  have h4 : e.st = 4 := by omega
  by_cases hsy : f = 1 ∨ f = 3
  · rw [show comeE e q a f wd ds = takeE e q f ds by unfold comeE; rw [if_neg h05, if_neg h8, if_neg h1, if_neg h2, if_neg h3, if_pos (by omega)]]
    exact come_4s w g e vo vi q a f wd A n c ds hm ok h4 hq hsy hw hn hd hdf
  · rw [show comeE e q a f wd ds = takeE (answerE e a wd) q f ds by unfold comeE; rw [if_neg h05, if_neg h8, if_neg h1, if_neg h2, if_neg h3, if_neg (by omega)]]
    exact come_4 w g e vo vi q a f wd A n c ds hm ok h4 hq ha (by omega) hw hn hd hdf
end Go.Proofs.Ytacfffegmmdgfaa
