/- The contract of take: what data do at an open end. -/
import Derived.Test.YtacfffegmmdgfaaAnswer
namespace Go.Proofs.Ytacfffegmmdgfaa
open Go.RowKit
set_option linter.unusedVariables false

def refuseB (e : EndD) (q f : Int) (n : Nat) : Bool := decide (f % 2 = 1) || (decide (q ≠ e.rcv) || (e.fin || decide (64 < e.inn.length + n)))
def takeTo (e : EndD) (f : Int) (ds : List UInt8) : EndD := { e with due := true, inn := e.inn ++ ds, rcv := (e.rcv + spanF f ds.length) % 4294967296, fin := decide (f / 4 % 2 = 1) }
def takeE (e : EndD) (q f : Int) (ds : List UInt8) : EndD :=
  if spanF f ds.length = 0 then e
  else if refuseB e q f ds.length = true then { e with due := true }
  else takeTo e f ds
def opIn : Op := Op.load 24 (Operand.tmp 44)
theorem opIn_eq : opIn = Op.load 24 (Operand.tmp 44) := rfl
def opRcv : Op := Op.load 22 (Operand.tmp 53)
theorem opRcv_eq : opRcv = Op.load 22 (Operand.tmp 53) := rfl

def TakeMid (w : World) (g gb : Nat) (e2 : EndD) (q a f wd : Int) (vo vi d : Value) (wc : World) : Prop :=
  ∃ A' c', EndM wc g e2 vo (.slice A' e2.inn.length c') ∧ Blk wc gb 60 #[.int .u32 q, .int .u32 a, .int .i64 f, .int .i64 wd, d] ∧ KeepF (foot g vo vi) w wc ∧ ∀ k, foot g vo (.slice A' e2.inn.length c') k → foot g vo vi k ∨ w.heap.size ≤ k
set_option maxHeartbeats 2000000 in
set_option maxRecDepth 100000 in
theorem take_any (w : World) (g : Nat) (e : EndD) (vo vi : Value) (q a f wd : Int) (A : Option Addr) (n c : Nat) (ds : List UInt8) (hm : EndM w g e vo vi) (ok : e.Ok) (hq : U32 q) (hf : f = 1 ∨ f = 2 ∨ f = 3 ∨ f = 6) (hn : n ≤ 32)
    (hd : w.ownsRow 0 5 1 (.slice A n c) n (bytesV ds)) (hdf : ∀ k, Value.ownBlock (.slice A n c) = some k → ¬ foot g vo vi k) :
    Calls Try.prog 40 #[.pointer (some ⟨g, 0, none⟩), segV q a f wd (.slice A n c)] w fun r w' => r = .returned (.tuple #[]) ∧ EndOp w g vo vi (takeE e q f ds) w' := by
  have hdl : ds.length = n := by have := hd.1; rw [bytesV_length] at this; omega
  have HX0 := hide ((Ext.refl w).alloc (.cells #[.int .u32 q, .int .u32 a, .int .i64 f, .int .i64 wd, .slice A n c] 60))
  have HBX := hide (Blk.new w 60 #[.int .u32 q, .int .u32 a, .int .i64 f, .int .i64 wd, .slice A n c])
  have HM := hide (hm.ext HX0.out)
  have hgl : g < w.heap.size := hm.box.lt
  have HRD := hide (HX0.out.own hd)
  have HDF := hide hdf
  have HQ := hide hq
  have HOK := hide ok
  have HDL := hide hdl
  have hfr : 0 ≤ f ∧ f ≤ 15 := by omega
  have hrv := ok.rcv
  obtain ⟨rv1, rv2⟩ := hrv
  obtain ⟨q1, q2⟩ := hq
  have hl64 := ok.inn
  have HT := hide (show takeE e q f ds = if spanF f n = 0 then e else if refuseB e q f n = true then { e with due := true } else takeTo e f ds by rw [← hdl]; rfl)
  have hsp : 0 ≤ spanF f n ∧ spanF f n ≤ 66 := by unfold spanF; split <;> split <;> omega
  have hne : w.heap.size ≠ g := by omega
  have HF := hide hf
  clear hm ok hd hdf hdl hf
  go_enter Try.func40, Try.ntmps40
  go_upto_region 1 with fail
  generalize w.alloc (.cells #[.int .u32 q, .int .u32 a, .int .i64 f, .int .i64 wd, .slice A n c] 60) = W at *
  obtain ⟨gb, hgb⟩ : ∃ x, w.heap.size = x := ⟨_, rfl⟩
  rw [hgb] at HBX hne hgl ⊢
  have HGB := hide hgb
  clear hgb
  have b0 : W.cell? ⟨gb, 0, none⟩ = some (.int .u32 q) := HBX.out.cell 0
  have b1 : W.cell? ⟨gb, 1, none⟩ = some (.int .u32 a) := HBX.out.cell 1
  have b2 : W.cell? ⟨gb, 2, none⟩ = some (.int .i64 f) := HBX.out.cell 2
  have b3 : W.cell? ⟨gb, 3, none⟩ = some (.int .i64 wd) := HBX.out.cell 3
  have b4 : W.cell? ⟨gb, 4, none⟩ = some (.slice A n c) := HBX.out.cell 4
  have HSP := hide (fun W' : World => span_any W' q a f wd A n c hfr (by omega))
  obtain ⟨sp, hsp'⟩ : ∃ x, spanF f n = x := ⟨_, rfl⟩
  rw [hsp'] at hsp HSP HT
  have HSV := hide hsp'
  clear hsp'
  obtain ⟨sp1, sp2⟩ := hsp
  go_wp2_with fail
  refine (HSP.out _).mono ?_
  rintro r w1 ⟨rfl, hx1⟩
  have HX1 := hide (HX0.out.trans hx1)
  have HXW := hide hx1
  have HM1 := hide (HM.out.ext hx1)
  have HBX1 := hide (HBX.out.ext hx1)
  clear hx1 b0 b1 b2 b3 b4 HX0
  by_cases hs0 : sp = 0
  · have HT' := hide (show takeE e q f ds = e by rw [HT.out, if_pos hs0])
    subst hs0
    go_wp2_with fail
    (first | go_end0 | ((try simp only [Exit.inBlock, Exit.then]); refine bodyPost_ret (results_none rfl _ _ _) rfl ?_))
    refine ⟨rfl, ?_⟩
    rw [HT'.out]
    exact EndOp.via (KeepF.of_ext HX1.out) (EndOp.same HM1.out)
  have HT1 := hide (show takeE e q f ds = if refuseB e q f n = true then { e with due := true } else takeTo e f ds by rw [HT.out, if_neg hs0])
  have tsp : (sp == 0) = false := by simpa using hs0
  clear HT hs0
  have c11 : w1.cell? ⟨g, 11, none⟩ = some (.bool e.due) := HM1.out.box.cell 11
  have f11 := HM1.out.box.frozen 11
  go_upto_region 3 with fail
  have HE2 := hide (EndB.s11 HM1.out.box true)
  have HG2 := hide (grown_set (World.grownBy.refl w1 (some g)) 11 (.bool true))
  have HBX2 := hide (HBX1.out.far hne (p := ⟨g, 11, none⟩) (.bool true))
  generalize w1.setCell ⟨g, 11, none⟩ (.bool true) = w2 at *
  have HM2 := hide (HM1.out.grown HG2.out HE2.out rfl rfl)
  clear c11 f11
  obtain ⟨Ai, ci, hvi, hci, hcm, hnil⟩ := own_form HM1.out.inn
  have HVI := hide hvi
  have b0 : w2.cell? ⟨gb, 0, none⟩ = some (.int .u32 q) := HBX2.out.cell 0
  have b2 : w2.cell? ⟨gb, 2, none⟩ = some (.int .i64 f) := HBX2.out.cell 2
  have b4 : w2.cell? ⟨gb, 4, none⟩ = some (.slice A n c) := HBX2.out.cell 4
  have c5 : w2.cell? ⟨g, 5, none⟩ = some (.int .u32 e.rcv) := HE2.out.cell 5
  have c7 : w2.cell? ⟨g, 7, none⟩ = some (.slice Ai e.inn.length ci) := by rw [← HVI.out]; exact HE2.out.cell 7
  have c10 : w2.cell? ⟨g, 10, none⟩ = some (.bool e.fin) := HE2.out.cell 10
  have HREF := hide (fun h : refuseB e q f n = true => show ∀ d, EndOp w g vo vi (takeE e q f ds) (w2.drewN d) from fun d => by
    rw [HT1.out, if_pos h]
    exact EndOp.via (KeepF.of_ext HX1.out) (EndOp.of_grown HM1.out (grown_drewN HG2.out _) (HE2.out.drewN _) rfl rfl))
  clear hvi hnil
  by_cases hsy : f = 1 ∨ f = 3
  · have HR := hide (HREF.out (by unfold refuseB; rcases hsy with h | h <;> subst h <;> rfl))
    have k1 : bits BinOp.and IntKind.i64 f 1 = 1 := by rcases hsy with h | h <;> subst h <;> decide
    clear hsy
    go_quiet (fail)
    go_wp2_with fail
    (first | go_end0 | ((try simp only [Exit.inBlock, Exit.then]); refine bodyPost_ret (results_none rfl _ _ _) rfl ?_))
    exact ⟨rfl, HR.out _⟩
  have k1 : bits BinOp.and IntKind.i64 f 1 = 0 := by rcases HF.out with h | h | h | h <;> subst h <;> first | decide | (exfalso; omega)
  by_cases hqr : q ≠ e.rcv
  · have HR := hide (HREF.out (by unfold refuseB; simp [hqr]))
    have tq : (q == e.rcv) = false := by simpa using hqr
    have tq' : (q != e.rcv) = true := by simpa using hqr
    clear hsy hqr
    generalize e.rcv = rv at c5 tq tq'
    go_quiet (fail)
    go_wp2_with fail
    (first | go_end0 | ((try simp only [Exit.inBlock, Exit.then]); refine bodyPost_ret (results_none rfl _ _ _) rfl ?_))
    exact ⟨rfl, HR.out _⟩
  have hqr := Decidable.not_not.1 hqr
  have tq : (q == q) = true := by simp
  have tq' : (q != q) = false := by simp
  rw [← hqr] at c5
  cases hfi : e.fin with
  | true =>
    have HR := hide (HREF.out (by unfold refuseB; simp [hfi]))
    rw [hfi] at c10
    clear hsy hqr hfi
    go_quiet (fail)
    go_wp2_with fail
    (first | go_end0 | ((try simp only [Exit.inBlock, Exit.then]); refine bodyPost_ret (results_none rfl _ _ _) rfl ?_))
    exact ⟨rfl, HR.out _⟩
  | false =>
  rw [hfi] at c10
  obtain ⟨l, hl⟩ : ∃ x, e.inn.length = x := ⟨_, rfl⟩
  rw [hl] at c7 hl64 hci
  by_cases hlong : 64 < l + n
  · have HR := hide (HREF.out (by unfold refuseB; simp [hl, hlong]))
    have hlongI : (64 : Int) < (l : Int) + (n : Int) := by omega
    clear hsy hqr hfi hl
    go_quiet (fail)
    go_wp2_with fail
    (first | go_end0 | ((try simp only [Exit.inBlock, Exit.then]); refine bodyPost_ret (results_none rfl _ _ _) rfl ?_))
    exact ⟨rfl, HR.out _⟩
  have HRF := hide (show refuseB e q f n = false by
    have h1 : f % 2 = 0 := by rcases HF.out with h | h | h | h <;> subst h <;> first | rfl | (exfalso; omega)
    simp [refuseB, hqr, hfi, hl, h1]; omega)
  have HTT := hide (show takeE e q f ds = takeTo e f ds by rw [HT1.out, if_neg (by rw [HRF.out]; simp)])
  have hlongI : ¬ ((64 : Int) < (l : Int) + (n : Int)) := by omega
  have hlong' : ¬ (64 < l + n) := hlong
  have HQR := hide hqr
  have HL := hide hl
  clear hsy hqr hfi hl HT1 HREF HRF
  go_quiet (fail)
  go_upto_region 4 with fail
  obtain ⟨i0, hi0, hz0, hz1, hz2⟩ := info_parts byte_info
  have HWQ := hide ((Ext.refl w2).drewN nq)
  have HM3 := hide (HM2.out.ext HWQ.out)
  have HBX3 := hide (HBX2.out.ext HWQ.out)
  have HG3 := hide (grown_drewN HG2.out nq)
  have HK3 := hide (show KeepF (foot g vo vi) W (w2.drewN nq) from (KeepF.of_ext HXW.out).trans (KeepF.of_grown (F := foot g vo vi) HG3.out (.inl rfl)) (fun _ _ h => h))
  have HRD3 := hide (HK3.out.own HRD.out HDF.out)
  have hoi := HM3.out.inn
  dsimp only at hoi
  rw [HVI.out, HL.out] at hoi
  have HOI := hide hoi
  generalize w2.drewN nq = w3 at *
  clear hoi b0 b2 b4 c5 c7 c10
  have b4 : w3.cell? ⟨gb, 4, none⟩ = some (.slice A n c) := HBX3.out.cell 4
  have c7 : w3.cell? ⟨g, 7, none⟩ = some (.slice Ai l ci) := by have := HM3.out.box.cell 7; rw [HVI.out, HL.out] at this; exact this
  have hlne : n ≤ c := (own_le HRD3.out).1
  unfold maxLen at hcm
  rw [← opIn_eq]
  go_cut [] (TakeMid w3 g gb { e with due := true, inn := e.inn ++ ds } q a f wd vo vi (.slice A n c))
  case first =>
    have hOp := opIn_eq
    have HOJ2 := hide (show w3.drew.ownsRow 0 5 1 (.slice Ai l ci) l (bytesV e.inn) from HOI.out.drew)
    have HBJ2 := hide HM3.out.box.drew
    have HRT := hide (show Reads w3.drew w3.heap.size 1 A n (bytesV ds) from (Reads.of_own HRD3.out).drew)
    go_region_held3 (fun w' => w'.cell? ⟨gb, 4, none⟩ = some (.slice A n c)) (first | ((repeat (first | with_reducible assumption | (with_reducible refine far3 ?_) | (with_reducible refine far4 ?_) | (with_reducible refine far2 ?_ (by decide) _) | (with_reducible refine far1 ?_ (by dsimp only; omega) _))); done) | assumption | fail)
      (first | (refine step_append_any _ (by rfl) (.tmp 45) (.tmp 47) 24 (by rfl) 0 5 i0 _ 1 1 Try.underlying24 hi0 hz0 hz1 hz2 rfl (by omega) (.slice Ai l ci) l (bytesV e.inn) (by rfl) HOJ2.out w3.heap.size A n c (bytesV ds) (by rfl) HRT.out (bytesV_one _) (by simp only [maxLen]; omega) (by omega) (Nat.zero_le _) ?_; intro A7 c7 w7 ho7 hg7 ha7; have n5 : w7.cell? ⟨g, 7, none⟩ = some _ := hg7.cell (HBJ2.out.cell 7) (fun e => own_blk_ne HOJ2.out HBJ2.out (by decide) e.symm); have nf : w7.frozen? ⟨g, 7, none⟩ = false := (HBJ2.out.grown hg7 (fun e => own_blk_ne HOJ2.out HBJ2.out (by decide) e.symm)).frozen 7; have n4 : w7.cell? ⟨gb, 4, none⟩ = some _ := hg7.cell (HBX3.out.drew.cell 4) (fun e => own_blk_ne HOJ2.out HBX3.out.drew (by decide) e.symm)) | fail)
    go_wp2_with fail
    go_meet
    have hb7 : Blk w7 g 55 _ := HBJ2.out.grown hg7 (fun e => own_blk_ne HOJ2.out HBJ2.out (by decide) e.symm)
    have hx7 : Blk w7 gb 60 _ := HBX3.out.drew.grown hg7 (fun e => own_blk_ne HOJ2.out HBX3.out.drew (by decide) e.symm)
    have hlen : (e.inn ++ ds).length = l + n := by rw [List.length_append, HL.out, HDL.out]
    have hb8 : EndB (w7.setCell ⟨g, 7, none⟩ (.slice A7 (l + n) c7)) g { e with due := true, inn := e.inn ++ ds } vo (.slice A7 (l + n) c7) := by
      have := Blk.set_ hb7 7 (.slice A7 (l + n) c7)
      exact this
    have hoout := HM3.out.out
    have hneV := HM3.out.ne
    have e9 : w3.drew.heap.size = w3.heap.size := rfl
    refine ⟨A7, c7, ⟨?_, ?_, ?_, ?_⟩, hx7.far hne _, ?_, ?_⟩
    · show EndB _ g _ vo (.slice A7 (e.inn ++ ds).length c7)
      rw [hlen]; exact hb8
    · refine own_of_keep hoout (fun x hx => ?_)
      rw [Below.heap_setCell _ _ _ _ (by show x ≠ g; exact fun e => own_blk_ne hoout HM3.out.box (by decide) (by rw [hx, e]))]
      exact hg7.block x (hoout.lt x hx).2 (fun e => hneV x hx (by rw [HVI.out, HL.out]; exact e.symm))
    · show World.ownsRow _ 0 5 1 (.slice A7 (e.inn ++ ds).length c7) (e.inn ++ ds).length (bytesV (e.inn ++ ds))
      rw [hlen, bytesV_append]
      exact own_far (p := ⟨g, 7, none⟩) ho7 (own_blk_ne ho7 hb7 (by decide)) _
    · intro x hx hx2
      dsimp only at hx2
      rw [hlen] at hx2
      rcases ha7 with ha7 | ha7
      · exact hneV x hx (by rw [HVI.out, HL.out, ← ha7]; exact hx2)
      · rw [ha7] at hx2
        injection hx2 with hx2
        have := (hoout.lt x hx).2
        omega
    · refine ⟨hg7.os, hg7.tape, hg7.output, by have := hg7.size; simpa using this, fun x hx hn => ?_⟩
      rw [Below.heap_setCell _ _ _ _ (by show x ≠ g; exact fun e => hn (.inl e))]
      exact hg7.block x hx (fun e => hn (.inr (.inr (by rw [HVI.out, HL.out]; exact e.symm))))
    · dsimp only
      rw [hlen]
      rintro x (hx | hx | hx)
      · exact .inl (.inl hx)
      · exact .inl (.inr (.inl hx))
      · rcases ha7 with ha7 | ha7
        · exact .inl (.inr (.inr (by rw [HVI.out, HL.out, ← ha7]; exact hx)))
        · rw [ha7] at hx
          injection hx with hx
          exact .inr (by omega)
  case rest =>
  obtain ⟨A7, c7', hm7, hx7, hk7, hf7⟩ := hcut
  have HM7 := hide hm7
  have HX7 := hide hx7
  have HK7 := hide hk7
  have HF7 := hide hf7
  have hbx := hm7.box
  have c5 : wc.cell? ⟨g, 5, none⟩ = some (.int .u32 e.rcv) := hbx.cell 5
  have f5 := hbx.frozen 5
  have b0 : wc.cell? ⟨gb, 0, none⟩ = some (.int .u32 q) := hx7.cell 0
  have b1 : wc.cell? ⟨gb, 1, none⟩ = some (.int .u32 a) := hx7.cell 1
  have b2 : wc.cell? ⟨gb, 2, none⟩ = some (.int .i64 f) := hx7.cell 2
  have b3 : wc.cell? ⟨gb, 3, none⟩ = some (.int .i64 wd) := hx7.cell 3
  have b4' : wc.cell? ⟨gb, 4, none⟩ = some (.slice A n c) := hx7.cell 4
  clear hm7 hx7 hk7 hf7 hbx b4 c7
  go_upto_region 5 with fail
  rw [← opRcv_eq]
  have hgc : g < wc.heap.size := HM7.out.box.lt
  have HV := hide (show IntKind.u32.wrap (e.rcv + IntKind.u32.wrap sp) = (e.rcv + spanF f ds.length) % 4294967296 by rw [HDL.out, HSV.out, IntKind.wrap_u32, IntKind.wrap_u32]; omega)
  have HE5 := hide (fun (W' : World) (hx : Ext wc W') => show EndB (W'.setCell ⟨g, 5, none⟩ (.int .u32 ((e.rcv + spanF f ds.length) % 4294967296))) g { e with due := true, inn := e.inn ++ ds, rcv := (e.rcv + spanF f ds.length) % 4294967296 } vo (.slice A7 (e.inn ++ ds).length c7') from (HM7.out.box.ext hx).set_ 5 _)
  obtain ⟨rv, hrv⟩ : ∃ x, e.rcv = x := ⟨_, rfl⟩
  rw [hrv] at c5 HV rv1 rv2 HE5
  have HRV := hide hrv
  clear hrv
  go_cut [] (fun wd' => ∃ W', Ext wc W' ∧ wd' = W'.setCell ⟨g, 5, none⟩ (.int .u32 ((rv + spanF f ds.length) % 4294967296)))
  case first =>
    have hOp := opRcv_eq
    go_region_held3 (fun w' => w'.cell? ⟨gb, 0, none⟩ = some (.int .u32 q) ∧ w'.cell? ⟨gb, 1, none⟩ = some (.int .u32 a) ∧ w'.cell? ⟨gb, 2, none⟩ = some (.int .i64 f) ∧ w'.cell? ⟨gb, 3, none⟩ = some (.int .i64 wd) ∧ w'.cell? ⟨gb, 4, none⟩ = some (.slice A n c))
      (first | (refine ⟨?_, ?_, ?_, ?_, ?_⟩ <;> (refine Ext.cell (w := wc) ?_ (by assumption); ((repeat (first | with_reducible exact Ext.refl _ | with_reducible assumption | with_reducible refine Ext.alloc ?_ _ | with_reducible refine Ext.drew ?_ | with_reducible refine Ext.drewN ?_ _ | with_reducible refine Ext.setCell ?_ (by first | exact Nat.le_refl _ | assumption | (simp; done) | omega) _ | with_reducible refine Ext.trans ?_ (by with_reducible assumption))); done))) | (refine ⟨?_, ?_, ?_, ?_, ?_⟩ <;> (refine far1 (Ext.cell (w := wc) (by ((repeat (first | with_reducible exact Ext.refl _ | with_reducible assumption | with_reducible refine Ext.alloc ?_ _ | with_reducible refine Ext.drew ?_ | with_reducible refine Ext.drewN ?_ _ | with_reducible refine Ext.setCell ?_ (by first | exact Nat.le_refl _ | assumption | (simp; done) | omega) _ | with_reducible refine Ext.trans ?_ (by with_reducible assumption))); done)) (by assumption)) (by dsimp only; omega) _)) | fail)
      (first | (go_at_call 42; refine (HSP.out _).mono ?_; rintro e' w1' ⟨rfl, hx1⟩; have y2 : w1'.cell? ⟨g, 5, none⟩ = some (.int .u32 rv) := Ext.cell hx1 c5; have z2 : w1'.frozen? ⟨g, 5, none⟩ = false := (Ext.frozen hx1 c5).trans f5) | fail)
    all_goals
      go_wp2_with fail
      go_meet
      have hxw : Ext wc w1' := by first | exact Ext.trans (Ext.drew (Ext.refl wc)) hx1 | exact hx1
      rw [HV.out]
      exact ⟨w1', hxw, rfl⟩
  case rest =>
  obtain ⟨W', hxW, rfl⟩ := hcut
  have HE5' := hide (HE5.out W' hxW)
  have HXW' := hide hxW
  have HBX5 := hide ((HX7.out.ext hxW).far (p := ⟨g, 5, none⟩) hne (.int .u32 ((rv + spanF f ds.length) % 4294967296)))
  have HG5 := hide (grown_set (grown_of_ext hxW (some g)) 5 (.int .u32 ((rv + spanF f ds.length) % 4294967296)))
  clear hxW b0 b1 b2 b3 b4' c5 f5
  generalize W'.setCell ⟨g, 5, none⟩ (.int .u32 ((rv + spanF f ds.length) % 4294967296)) = w5 at *
  have b2 : w5.cell? ⟨gb, 2, none⟩ = some (.int .i64 f) := HBX5.out.cell 2
  have c10 : w5.cell? ⟨g, 10, none⟩ = some (.bool e.fin) := HE5'.out.cell 10
  have f10 := HE5'.out.frozen 10
  have HEND := hide (fun (b : Bool) (hb : decide (f / 4 % 2 = 1) = b) => show EndOp w g vo vi (takeE e q f ds) (w5.setCell ⟨g, 10, none⟩ (.bool b)) from by
    rw [HTT.out]
    have hE : EndB (w5.setCell ⟨g, 10, none⟩ (.bool b)) g (takeTo e f ds) vo (.slice A7 (e.inn ++ ds).length c7') := by
      have := HE5'.out.s10 b
      unfold takeTo
      rw [hb, HRV.out]
      exact this
    have hgr : wc.grownBy (w5.setCell ⟨g, 10, none⟩ (.bool b)) (some g) := grown_set HG5.out 10 _
    have hme := HM7.out.grown hgr hE rfl rfl
    refine ⟨vo, .slice A7 (e.inn ++ ds).length c7', hme, ?_, fun k hk => ?_⟩
    · exact ((KeepF.of_ext (F := foot g vo vi) (HX1.out.trans (Ext.refl w1))).trans (KeepF.of_grown (F := foot g vo vi) HG3.out (.inl rfl)) (fun _ _ h => h)).trans (HK7.out.trans (KeepF.of_grown (F := foot g vo vi) hgr (.inl rfl)) (fun _ _ h => h)) (fun _ _ h => h)
    · rcases HF7.out k hk with h | h
      · exact .inl h
      · have h1 := HX1.out.size
        have h2 := HG3.out.size
        exact .inr (by omega))
  by_cases h6 : f = 6
  · have k4 : bits BinOp.and IntKind.i64 f 4 = 4 := by subst h6; decide
    have hb : decide (f / 4 % 2 = 1) = true := by subst h6; decide
    have HB := hide (HEND.out true hb)
    clear h6 hb
    go_wp2_with fail
    (first | go_end0 | ((try simp only [Exit.inBlock, Exit.then]); refine bodyPost_ret (results_none rfl _ _ _) rfl ?_))
    exact ⟨rfl, HB.out⟩
  · have k4 : bits BinOp.and IntKind.i64 f 4 = 0 := by rcases HF.out with h | h | h | h <;> subst h <;> first | decide | (exfalso; omega)
    have hb : decide (f / 4 % 2 = 1) = false := by rcases HF.out with h | h | h | h <;> subst h <;> first | decide | (exfalso; omega)
    have HB := hide (HEND.out false hb)
    clear h6 hb
    go_wp2_with fail
    (first | go_end0 | ((try simp only [Exit.inBlock, Exit.then]); refine bodyPost_ret (results_none rfl _ _ _) rfl ?_))
    exact ⟨rfl, HB.out⟩
end Go.Proofs.Ytacfffegmmdgfaa
