/- The contract of Write at any end. -/
import Derived.Test.YtacfffegmmdgfaaEndRW
import Derived.StillTailTactics
namespace Go.Proofs.Ytacfffegmmdgfaa
open Go.RowKit
set_option linter.unusedVariables false

def wrN (e : EndD) (n : Nat) : Nat := min n (64 - e.out.length)
def wrTo (e : EndD) (ds : List UInt8) : EndD := { e with out := e.out ++ ds.take (wrN e ds.length) }
def writeE (e : EndD) (ds : List UInt8) : EndD × Nat × Int :=
  if e.st = 5 then (e, 0, 10) else if begunB e = false ∨ e.shut = true then (e, 0, 8) else if 0 < ds.length ∧ e.out.length = 64 then (e, 0, 9) else (wrTo e ds, wrN e ds.length, 0)
def WritePost (w : World) (g : Nat) (e : EndD) (vo vi : Value) (ds : List UInt8) (r : Ending) (w' : World) : Prop :=
  r = .returned (.tuple #[.int .i64 ((writeE e ds).2.1 : Int), .int .i64 (writeE e ds).2.2]) ∧ EndOp w g vo vi (writeE e ds).1 w'
def opOut : Op := Op.load 24 (Operand.tmp 51)
theorem opOut_eq : opOut = Op.load 24 (Operand.tmp 51) := rfl
def MinMid (w : World) (k : Nat) (v : Value) (wc : World) : Prop := v = .int .i64 k ∧ w = wc
theorem write_gone0 (w : World) (g : Nat) (e : EndD) (vo vi : Value) (D : Option Addr) (n c : Nat) (hb : EndB w g e vo vi) (hst : e.st = 5) (hn : n ≤ 256) :
    Calls Try.prog 25 #[.pointer (some ⟨g, 0, none⟩), .slice D n c] w fun r w' => r = .returned (.tuple #[.int .i64 0, .int .i64 10]) ∧ w = w' := by
  have c0 : w.cell? ⟨g, 0, none⟩ = some (.int .i64 e.st) := hb.cell 0
  rw [hst] at c0
  clear hb hst
  go_enter Try.func25, Try.ntmps25
  go_wp2_with fail
  go_ret2
  exact ⟨rfl, rfl⟩
set_option maxHeartbeats 2000000 in
set_option maxRecDepth 100000 in
theorem write_any (w : World) (g : Nat) (e : EndD) (vo vi : Value) (D : Option Addr) (n c B : Nat) (ds : List UInt8) (hm : EndM w g e vo vi) (ok : e.Ok) (hd : Reads w B 1 D n (bytesV ds)) (hnc : n ≤ c) (hn : n ≤ 256) :
    Calls Try.prog 25 #[.pointer (some ⟨g, 0, none⟩), .slice D n c] w (WritePost w g e vo vi ds) := by
  have hdl : ds.length = n := by have := hd.1; rw [bytesV_length] at this; omega
  by_cases h5 : e.st = 5
  · have HT := hide (show writeE e ds = (e, 0, 10) by simp [writeE, h5])
    unfold WritePost
    rw [HT.out]
    refine (write_gone0 w g e vo vi D n c hm.box h5 hn).mono ?_
    rintro r w' ⟨rfl, rfl⟩
    exact ⟨rfl, EndOp.same hm⟩
  have t5 : (e.st == 5) = false := by simpa using h5
  have HBG := hide (begun_any w g e vo vi hm.box)
  have c0 : w.cell? ⟨g, 0, none⟩ = some (.int .i64 e.st) := hm.box.cell 0
  have c9 : w.cell? ⟨g, 9, none⟩ = some (.bool e.shut) := hm.box.cell 9
  by_cases hbs : begunB e = false ∨ e.shut = true
  · have HT := hide (show writeE e ds = (e, 0, 8) by simp only [writeE, if_neg h5, if_pos hbs])
    unfold WritePost
    rw [HT.out]
    have HS := hide (EndOp.same hm)
    clear hm ok hd h5
    cases hbg : begunB e with
    | false =>
      rw [hbg] at HBG
      clear hbg hbs
      generalize e.st = s at *
      go_enter Try.func25, Try.ntmps25
      go_wp2_with fail
      refine HBG.out.mono ?_
      rintro r w' ⟨rfl, rfl⟩
      go_wp2_with fail
      go_ret2
      exact ⟨rfl, HS.out⟩
    | true =>
      rw [hbg] at HBG
      have hs : e.shut = true := by rcases hbs with h | h <;> simp_all
      rw [hs] at c9
      clear hbg hbs hs
      generalize e.st = s at *
      go_enter Try.func25, Try.ntmps25
      go_wp2_with fail
      refine HBG.out.mono ?_
      rintro r w' ⟨rfl, rfl⟩
      go_wp2_with fail
      go_ret2
      exact ⟨rfl, HS.out⟩
  have hbg : begunB e = true := by cases h : begunB e with | true => rfl | false => exact absurd (.inl h) hbs
  have hs : e.shut = false := by cases h : e.shut with | false => rfl | true => exact absurd (.inr h) hbs
  rw [hbg] at HBG
  rw [hs] at c9
  obtain ⟨i0, hi0, hz0, hz1, hz2⟩ := info_parts byte_info
  obtain ⟨Ao, co, hvo, hco, hcm, hnil⟩ := own_form hm.out
  have c6 : w.cell? ⟨g, 6, none⟩ = some vo := hm.box.cell 6
  have f6 := hm.box.frozen 6
  rw [hvo] at c6
  have hl64 := ok.out
  by_cases hw : 0 < ds.length ∧ e.out.length = 64
  · have HT := hide (show writeE e ds = (e, 0, 9) by simp only [writeE, if_neg h5, if_neg hbs, if_pos hw])
    unfold WritePost
    rw [HT.out]
    have HS := hide (EndOp.same hm)
    obtain ⟨hw1, hw2⟩ := hw
    rw [hw2] at c6
    have hn0 : 0 < n := by omega
    have c6' : w.cell? ⟨g, 6, none⟩ = some (.slice Ao 64 co) := c6
    clear hm ok hd h5 hbs hbg hs hw2 hvo c6 hnil hdl hw1
    generalize e.st = s at *
    go_enter Try.func25, Try.ntmps25
    go_wp2_with fail
    refine HBG.out.mono ?_
    rintro r w' ⟨rfl, rfl⟩
    go_wp2_with fail
    go_ret2
    exact ⟨rfl, HS.out⟩
  have HT := hide (show writeE e ds = (wrTo e ds, wrN e n, 0) by unfold writeE; rw [if_neg h5, if_neg hbs, if_neg hw, hdl])
  unfold WritePost
  rw [HT.out]
  have HM := hide hm
  have HRD := hide hd
  have HVO := hide hvo
  have hgl : g < w.heap.size := hm.box.lt
  have hoo := hm.out
  rw [hvo] at hoo
  obtain ⟨k, hk⟩ : ∃ k, wrN e n = k := ⟨_, rfl⟩
  obtain ⟨l, hl⟩ : ∃ l, e.out.length = l := ⟨_, rfl⟩
  have hkm : k = min n (64 - l) := by rw [← hk, ← hl]; rfl
  rw [hl] at c6 hoo hco hnil hl64 hw
  have HDL := hide hdl
  rw [hdl] at hw
  have HO := hide hoo
  have HK := hide hk
  have HL := hide hl
  have hkn : k ≤ n := by omega
  have hkl : k + l ≤ 64 := by omega
  have hst := ok.st
  clear hm ok hd h5 hbs hbg hs hvo hnil hdl hoo hk hl
  unfold maxLen at hcm
  rw [HK.out]
  go_enter Try.func25, Try.ntmps25
  go_upto_block 0 with fail
  go_cut [] (fun wc => w = wc)
  case first =>
    generalize e.st = s at *
    by_cases hn0 : 0 < n
    · have tl : ((l : Int) == 64) = false := by simp; omega
      have tl' : (l == 64) = false := by simp; omega
      clear hkm hw
      go_wp2_with fail
      refine HBG.out.mono ?_
      rintro r w' ⟨rfl, rfl⟩
      go_wp2_with fail
      go_meet
      exact rfl
    · obtain rfl : n = 0 := by omega
      clear hkm hw
      go_wp2_with fail
      refine HBG.out.mono ?_
      rintro r w' ⟨rfl, rfl⟩
      go_wp2_with fail
      go_meet
      exact rfl
  case rest =>
  obtain rfl := hcut
  go_upto_region 9 with fail
  go_cut [6] (MinMid w k)
  case first =>
    by_cases hln : 64 - l < n
    · have hkl' : (k : Int) = 64 - (l : Int) := by omega
      have hln' : (64 : Int) - (l : Int) < (n : Int) := by omega
      have HKL := hide hkl'
      clear hkm hw hkl'
      go_wp2_with fail
      go_meet
      exact ⟨by rw [HKL.out], rfl⟩
    · have hkn' : k = n := by omega
      subst hkn'
      have hln' : ¬ ((64 : Int) - (l : Int) < (k : Int)) := by omega
      clear hkm hw
      go_wp2_with fail
      go_meet
      exact ⟨rfl, rfl⟩
  case rest =>
  obtain ⟨rfl, rfl⟩ := hcut
  go_upto_region 10 with fail
  rw [← opOut_eq]
  have hOp := opOut_eq
  have hkc : (k : Int) ≤ (c : Int) := by omega
  have hk0 : (0 : Int) ≤ (k : Int) := by omega
  have HOJ2 := hide (show w.drew.ownsRow 0 5 1 (.slice Ao l co) l (bytesV e.out) from HO.out.drew)
  have HBJ2 := hide HM.out.box.drew
  have HRT := hide (show Reads w.drew B 1 D k (bytesV (ds.take k)) by rw [← bytesV_take]; exact (HRD.out.take hkn).drew)
  clear hkm hw
  go_region_held3 (fun _ => True) (trivial)
    (first | (refine step_append_any _ (by rfl) (.tmp 52) (.tmp 55) 24 (by rfl) 0 5 i0 _ 1 1 Try.underlying24 hi0 hz0 hz1 hz2 rfl (by omega) (.slice Ao l co) l (bytesV e.out) (by rfl) HOJ2.out B D k c (bytesV (ds.take k)) (by rfl) HRT.out (bytesV_one _) (by simp only [maxLen]; omega) (by omega) (Nat.zero_le _) ?_; intro A7 c7 w7 ho7 hg7 ha7; have n5 : w7.cell? ⟨g, 6, none⟩ = some _ := hg7.cell (HBJ2.out.cell 6) (fun e => own_blk_ne HOJ2.out HBJ2.out (by decide) e.symm); have nf : w7.frozen? ⟨g, 6, none⟩ = false := (HBJ2.out.grown hg7 (fun e => own_blk_ne HOJ2.out HBJ2.out (by decide) e.symm)).frozen 6) | fail)
  go_wp2_with fail
  go_ret2
  have hb7 : Blk w7 g 55 _ := HBJ2.out.grown hg7 (fun e => own_blk_ne HOJ2.out HBJ2.out (by decide) e.symm)
  have hb8 : EndB (w7.setCell ⟨g, 6, none⟩ (.slice A7 (l + k) c7)) g (wrTo e ds) (.slice A7 (l + k) c7) vi := by
    have := Blk.set_ hb7 6 (.slice A7 (l + k) c7)
    exact this
  have hoinn := HM.out.inn
  have hne := HM.out.ne
  have hlen : (wrTo e ds).out.length = l + k := by
    show (e.out ++ ds.take (wrN e ds.length)).length = _
    rw [HDL.out, HK.out, List.length_append, HL.out, List.length_take, HDL.out]
    omega
  have hbe : bytesV (wrTo e ds).out = bytesV e.out ++ bytesV (ds.take k) := by
    show bytesV (e.out ++ ds.take (wrN e ds.length)) = _
    rw [HDL.out, HK.out, bytesV_append]
  refine ⟨rfl, .slice A7 (l + k) c7, vi, ⟨hb8, ?_, ?_, ?_⟩, ?_, ?_⟩
  · rw [hlen, hbe]
    exact own_far (p := ⟨g, 6, none⟩) ho7 (own_blk_ne ho7 hb7 (by decide)) _
  · show World.ownsRow _ 0 5 1 vi e.inn.length (bytesV e.inn)
    refine own_of_keep hoinn (fun x hx => ?_)
    rw [Below.heap_setCell _ _ _ _ (by show x ≠ g; exact fun e => own_blk_ne hoinn HM.out.box (by decide) (by rw [hx, e]))]
    exact hg7.block x (hoinn.lt x hx).2 (fun e => hne x (by rw [HVO.out, HL.out]; exact e.symm) hx)
  · intro x hx hx2
    rcases ha7 with ha7 | ha7
    · exact hne x (by rw [HVO.out, HL.out, ← ha7]; exact hx) hx2
    · rw [ha7] at hx
      injection hx with hx
      have := (hoinn.lt x hx2).2
      have e9 : w.drew.heap.size = w.heap.size := rfl
      omega
  · refine ⟨hg7.os, hg7.tape, hg7.output, by have := hg7.size; simpa using this, fun x hx hn => ?_⟩
    rw [Below.heap_setCell _ _ _ _ (by show x ≠ g; exact fun e => hn (.inl e))]
    exact hg7.block x hx (fun e => hn (.inr (.inl (by rw [HVO.out, HL.out]; exact e.symm))))
  · rintro x (hx | hx | hx)
    · exact .inl (.inl hx)
    · rcases ha7 with ha7 | ha7
      · exact .inl (.inr (.inl (by rw [HVO.out, HL.out, ← ha7]; exact hx)))
      · rw [ha7] at hx
        injection hx with hx
        have e9 : w.drew.heap.size = w.heap.size := rfl
        exact .inr (by omega)
    · exact .inl (.inr (.inr hx))
end Go.Proofs.Ytacfffegmmdgfaa
