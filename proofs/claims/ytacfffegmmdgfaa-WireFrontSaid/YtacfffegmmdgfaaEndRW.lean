/- Contracts of Read and Write at any end. -/
import Derived.Test.YtacfffegmmdgfaaEndM
import Derived.Deep.CutBlock
namespace Go.Proofs.Ytacfffegmmdgfaa
open Go.RowKit
set_option linter.unusedVariables false

def readN (e : EndD) (n : Nat) : Nat := min n e.inn.length
def readTo (e : EndD) (n : Nat) : EndD := { e with inn := e.inn.drop (readN e n), due := e.due || (decide (0 < readN e n) && decide (e.st = 4)) }
/-- A read that fails: its error. -/
def readErr (e : EndD) (n : Nat) : Option Int :=
  if e.st = 0 ∨ e.st = 1 then some 8
  else if 0 < n ∧ e.inn = [] ∧ e.fin = false then (if e.st = 5 then some 10 else some 9)
  else none
theorem read_fails (w : World) (g : Nat) (e : EndD) (vo vi : Value) (n : Nat) (er : Int) (hm : EndM w g e vo vi) (hn : n ≤ 256) (he : readErr e n = some er) :
    Calls Try.prog 26 #[.pointer (some ⟨g, 0, none⟩), .int .i64 n] w fun r w' => r = .returned (.tuple #[.slice none 0 0, .int .i64 er]) ∧ w = w' := by
  obtain ⟨Ai, ci, hvi, -⟩ := own_form hm.inn
  have c0 : w.cell? ⟨g, 0, none⟩ = some (.int .i64 e.st) := hm.box.cell 0
  have c7 : w.cell? ⟨g, 7, none⟩ = some vi := hm.box.cell 7
  have c10 : w.cell? ⟨g, 10, none⟩ = some (.bool e.fin) := hm.box.cell 10
  rw [hvi] at c7
  clear hm hvi
  unfold readErr at he
  by_cases h01 : e.st = 0 ∨ e.st = 1
  · rw [if_pos h01] at he
    injection he with he
    subst he
    rcases h01 with h | h
    all_goals
      rw [h] at c0
      clear h
      go_enter Try.func26, Try.ntmps26
      go_wp2_with fail
      go_ret2
      exact ⟨rfl, rfl⟩
  · rw [if_neg h01] at he
    have t0 : (e.st == 0) = false := by simp; omega
    have t1 : (e.st == 1) = false := by simp; omega
    by_cases hc : 0 < n ∧ e.inn = [] ∧ e.fin = false
    · rw [if_pos hc] at he
      obtain ⟨h1, h2, h3⟩ := hc
      rw [h2] at c7
      rw [h3] at c10
      have c7' : w.cell? ⟨g, 7, none⟩ = some (.slice Ai 0 ci) := c7
      clear c7
      by_cases h5 : e.st = 5
      · rw [if_pos h5] at he
        injection he with he
        subst he
        rw [h5] at c0
        clear t0 t1 h01 h2 h3 h5
        go_enter Try.func26, Try.ntmps26
        go_wp2_with fail
        go_ret2
        exact ⟨rfl, rfl⟩
      · rw [if_neg h5] at he
        injection he with he
        subst he
        have t5 : (e.st == 5) = false := by simp; omega
        clear h01 h2 h3 h5
        generalize e.st = s at *
        go_enter Try.func26, Try.ntmps26
        go_wp2_with fail
        go_ret2
        exact ⟨rfl, rfl⟩
    · rw [if_neg hc] at he
      cases he
def ReadPost (w : World) (g : Nat) (e : EndD) (vo vi : Value) (n : Nat) (r : Ending) (w' : World) : Prop :=
  ∃ A c, r = .returned (.tuple #[.slice A (readN e n) c, .int .i64 0]) ∧ w'.ownsRow w.heap.size 5 1 (.slice A (readN e n) c) (readN e n) (bytesV (e.inn.take (readN e n))) ∧ EndOp w g vo vi (readTo e n) w'
def ReadMid (w : World) (k : Nat) (v : Value) (wc : World) : Prop := v = .int .i64 k ∧ w = wc
def DueMid (w : World) (g : Nat) (e : EndD) (d : Bool) (vo vi : Value) (wc : World) : Prop := EndB wc g { e with due := d } vo vi ∧ w.grownBy wc (some g)
set_option maxHeartbeats 2000000 in
set_option maxRecDepth 100000 in
theorem read_ok (w : World) (g : Nat) (e : EndD) (vo vi : Value) (n : Nat) (hm : EndM w g e vo vi) (ok : e.Ok) (hn : n ≤ 256) (he : readErr e n = none) :
    Calls Try.prog 26 #[.pointer (some ⟨g, 0, none⟩), .int .i64 n] w (ReadPost w g e vo vi n) := by
  obtain ⟨i0, hi0, hz0, hz1, hz2⟩ := info_parts byte_info
  obtain ⟨Ai, ci, hvi, hci, hcm, hnil⟩ := own_form hm.inn
  have hoi := hm.inn
  rw [hvi] at hoi
  have c0 : w.cell? ⟨g, 0, none⟩ = some (.int .i64 e.st) := hm.box.cell 0
  have c7 : w.cell? ⟨g, 7, none⟩ = some vi := hm.box.cell 7
  have c10 : w.cell? ⟨g, 10, none⟩ = some (.bool e.fin) := hm.box.cell 10
  rw [hvi] at c7
  have HM := hide hm
  have HVI := hide hvi
  have HE := hide he
  have hl64 := ok.inn
  have hgl := hm.box.lt
  clear hm ok hvi
  have t01 : (e.st == 0) = false ∧ (e.st == 1) = false := by
    unfold readErr at he
    split at he
    · cases he
    · rename_i h; simp; omega
  obtain ⟨t0, t1⟩ := t01
  have hcase : n = 0 ∨ 0 < e.inn.length ∨ e.fin = true := by
    unfold readErr at he
    split at he
    · cases he
    · split at he
      · split at he <;> cases he
      · rename_i h
        by_cases h0 : n = 0
        · exact .inl h0
        · by_cases h1 : e.inn = []
          · by_cases h2 : e.fin = false
            · exact absurd ⟨by omega, h1, h2⟩ h
            · exact .inr (.inr (by simpa using h2))
          · exact .inr (.inl (by cases h3 : e.inn with | nil => exact absurd h3 h1 | cons a b => simp))
  clear he
  obtain ⟨k, hk⟩ : ∃ k, readN e n = k := ⟨_, rfl⟩
  obtain ⟨l, hl⟩ : ∃ l, e.inn.length = l := ⟨_, rfl⟩
  have hkm : k = min n l := by rw [← hk, ← hl]; rfl
  rw [hl] at c7 hcase hoi hci hnil hl64
  have HK := hide hk
  have HL := hide hl
  clear hk hl
  have hkl : k ≤ l := by omega
  unfold maxLen at hcm
  go_enter Try.func26, Try.ntmps26
  go_upto_block 0 with fail
  go_cut [] (fun wc => w = wc)
  case first =>
    generalize e.st = s at *
    by_cases hn0 : 0 < n
    · by_cases hl0 : 0 < l
      · have tl : ((l : Int) == 0) = false := by simp; omega
        have tl' : (l == 0) = false := by simp; omega
        clear hcase hkm
        go_wp2_with fail
        go_meet
        exact rfl
      · obtain rfl : l = 0 := by omega
        have h0 : e.fin = true := by rcases hcase with h | h | h <;> first | exact h | omega
        rw [h0] at c10
        clear hcase hkm h0
        go_wp2_with fail
        go_meet
        exact rfl
    · obtain rfl : n = 0 := by omega
      clear hcase hkm
      go_wp2_with fail
      go_meet
      exact rfl
  case rest =>
  obtain rfl := hcut
  go_upto_region 9 with fail
  go_cut [1] (ReadMid w k)
  case first =>
    by_cases hln : l < n
    · obtain rfl : k = l := by omega
      clear hkm hcase
      go_wp2_with fail
      go_meet
      exact ⟨rfl, rfl⟩
    · have hkn : k = n := by omega
      subst hkn
      clear hkm hcase
      go_wp2_with fail
      go_meet
      exact ⟨rfl, rfl⟩
  case rest =>
    obtain ⟨rfl, rfl⟩ := hcut
    clear hcase
    obtain ⟨A', hcut0, hrd, hnl⟩ := cut_from (P := Try.prog) Try.underlying24 hi0 hz1 (Reads.of_own hoi) k ci hkl hci .i64
    obtain ⟨rr, hr⟩ : ∃ r, l - k = r := ⟨_, rfl⟩
    obtain ⟨cr, hcr⟩ : ∃ r, ci - k = r := ⟨_, rfl⟩
    rw [hr, hcr] at hcut0
    rw [hr] at hrd
    have HR1 := hide (show Reads w w.heap.size 1 Ai k (bytesV (e.inn.take k)) by rw [← bytesV_take]; exact (Reads.of_own hoi).take hkl)
    have HR2 := hide (show Reads w w.heap.size 1 A' rr (bytesV (e.inn.drop k)) by rw [← bytesV_drop]; exact hrd)
    have HN1 := hide (show Ai = none → k = 0 from fun h0 => by have := (hnil h0).1; omega)
    have HN2 := hide (show A' = none → rr = 0 from fun h0 => by have := (hnil (hnl h0)).1; omega)
    have HRE := hide hr
    have hr64 : rr ≤ 64 := by omega
    have hki : (k : Int) ≤ (ci : Int) := by omega
    have hk0 : (0 : Int) ≤ (k : Int) := by omega
    have hk64 : k ≤ 64 := by omega
    clear hr hcr hrd hnl hnil hoi hkm
    go_upto_region 11 with fail
    refine (bclone_any Ai k ci w.heap.size (bytesV (e.inn.take k)) w HR1.out (bytesV_one _) (Nat.le_refl _) (by omega) HN1.out).mono ?_
    rintro r w1 ⟨A1, c1, rfl, ho1, hx1⟩
    have HO1 := hide ho1
    have HX1 := hide hx1
    have HB1 := hide (HM.out.box.ext hx1)
    clear ho1 hx1 c0 c7 c10
    go_upto_region 11 with fail
    have d0 : w1.cell? ⟨g, 0, none⟩ = some (.int .i64 e.st) := HB1.out.cell 0
    have d11 : w1.cell? ⟨g, 11, none⟩ = some (.bool e.due) := HB1.out.cell 11
    have g11 := HB1.out.frozen 11
    go_cut [] (DueMid w1 g e (readTo e n).due vo vi)
    case first =>
      have HD := hide (show (readTo e n).due = (e.due || (decide (0 < k) && decide (e.st = 4))) by rw [← HK.out]; rfl)
      have HS := hide (fun (b : Bool) (hb : (readTo e n).due = b) => show DueMid w1 g e (readTo e n).due vo vi (w1.setCell ⟨g, 11, none⟩ (.bool b)) from ⟨by rw [hb]; exact HB1.out.set_ 11 _, grown_set (World.grownBy.refl w1 _) _ _⟩)
      cases hd : e.due with
      | true =>
        rw [hd] at d11
        have HV := hide (show (readTo e n).due = true by rw [HD.out, hd]; rfl)
        clear hd
        go_wp2_with fail
        go_meet
        exact HS.out _ HV.out
      | false =>
        rw [hd] at d11
        by_cases hk1 : 0 < k
        · by_cases h4 : e.st = 4
          · rw [h4] at d0
            have HV := hide (show (readTo e n).due = true by rw [HD.out, hd, h4]; simp [hk1])
            clear hd h4
            go_wp2_with fail
            go_meet
            exact HS.out _ HV.out
          · have t4 : (e.st == 4) = false := by simpa using h4
            have HV := hide (show (readTo e n).due = false by rw [HD.out, hd]; simp [h4])
            clear hd h4
            generalize e.st = s at d0 t4
            go_wp2_with fail
            go_meet
            exact HS.out _ HV.out
        · obtain rfl : k = 0 := by omega
          have HV := hide (show (readTo e n).due = false by rw [HD.out, hd]; simp)
          clear hd
          go_wp2_with fail
          go_meet
          exact HS.out _ HV.out
    case rest =>
      obtain ⟨hb2, hg2⟩ := hcut
      have HB2 := hide hb2
      have HG2 := hide hg2
      have hs12 : w1.heap.size ≤ wc.heap.size := hg2.size
      have hsw1 : w.heap.size ≤ w1.heap.size := HX1.out.size
      have d7 : wc.cell? ⟨g, 7, none⟩ = some (.slice Ai l ci) := by have := hb2.cell 7; rw [HVI.out, HL.out] at this; exact this
      have g7 := hb2.frozen 7
      clear hb2 hg2 d0 d11 g11
      have HM1 := hide (HM.out.ext HX1.out)
      have HM2 := hide (HM1.out.grown HG2.out HB2.out rfl rfl)
      have hk2 : KeepF (fun x => x = g) w1 wc := KeepF.of_grown HG2.out rfl
      have HR3 := hide (show Reads wc wc.heap.size 1 A' rr (bytesV (e.inn.drop k)) by
        have := HM2.out.inn
        have hh : wc.ownsRow 0 5 1 (.slice Ai l ci) l (bytesV e.inn) := by have := HM2.out.inn; dsimp only at this; rw [HVI.out, HL.out] at this; exact this
        obtain ⟨A'', h1, h2, -⟩ := cut_from (P := Try.prog) Try.underlying24 hi0 hz1 (Reads.of_own hh) k ci hkl hci .i64
        have h3 := h1 wc
        rw [hcut0] at h3
        injection h3 with h3
        injection h3 with h3 _ _
        subst h3
        rw [HRE.out, bytesV_drop] at h2
        exact h2)
      clear hk2
      go_wp2_with fail
      refine (bclone_any A' rr cr wc.heap.size (bytesV (e.inn.drop k)) wc HR3.out (bytesV_one _) (Nat.le_refl _) (by omega) HN2.out).mono ?_
      rintro r w3 ⟨A3, c3, rfl, ho3, hx3⟩
      have HO3 := hide ho3
      have HX3 := hide hx3
      have e7 : w3.cell? ⟨g, 7, none⟩ = some _ := hx3.cell d7
      have q7 : w3.frozen? ⟨g, 7, none⟩ = false := (hx3.frozen d7).trans g7
      clear ho3 hx3 d7 g7
      go_wp2_with fail
      go_ret2
      have hm3 := HM2.out.ext HX3.out
      have hb4 : EndB (w3.setCell ⟨g, 7, none⟩ (.slice A3 rr c3)) g (readTo e n) vo (.slice A3 rr c3) := by
        have := hm3.box.set_ 7 (.slice A3 rr c3)
        exact this
      have hg3 : w1.grownBy w3 (some g) := grown_trans' HG2.out (grown_of_ext HX3.out _)
      have hg4 : w1.grownBy (w3.setCell ⟨g, 7, none⟩ (.slice A3 rr c3)) (some g) := grown_set hg3 7 _
      have hk4 : KeepF (fun x => x = g) w1 (w3.setCell ⟨g, 7, none⟩ (.slice A3 rr c3)) := KeepF.of_grown hg4 rfl
      have hrl : (e.inn.drop k).length = rr := by rw [List.length_drop, HL.out]; exact HRE.out
      have hno1 : ∀ x, Value.ownBlock (.slice A1 k c1) = some x → ¬ x = g := fun x hx => by have := (HO1.out.lt x hx).1; omega
      have ho3' := own_far (p := ⟨g, 7, none⟩) HO3.out (own_blk_ne HO3.out hm3.box (by decide)) (.slice A3 rr c3)
      unfold ReadPost
      rw [HK.out]
      refine ⟨A1, c1, rfl, hk4.own HO1.out hno1, vo, .slice A3 rr c3, ⟨hb4, ?_, ?_, ?_⟩, ?_, ?_⟩
      · exact hk4.own HM1.out.out (fun x hx e => own_blk_ne HM1.out.out HM1.out.box (by decide) (by rw [hx, e]))
      · show World.ownsRow _ 0 5 1 (.slice A3 rr c3) (e.inn.drop (readN e n)).length (bytesV (e.inn.drop (readN e n)))
        rw [HK.out, hrl]
        exact own_mono ho3' (Nat.zero_le _)
      · intro x hx hx3
        have h1 := (HO3.out.lt x hx3).1
        have h2 := (HM.out.out.lt x hx).2
        omega
      · exact (KeepF.of_ext HX1.out).trans hk4 (fun x _ hx => .inl hx)
      · rintro x (hx | hx | hx)
        · exact .inl (.inl hx)
        · exact .inl (.inr (.inl hx))
        · have h1 := (HO3.out.lt x hx).1
          exact .inr (by omega)
end Go.Proofs.Ytacfffegmmdgfaa
