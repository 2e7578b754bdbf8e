/- Contracts of Write and Read. -/
import Derived.Test.YtnniicmpbcfinaaSockOps
import Derived.Test.YtnniicmpbcfinaaBytesK
import Derived.StillTailTactics
namespace Go.Proofs.Ytnniicmpbcfinaa
open Go.RowKit
set_option linter.unusedVariables false

def WritePost (w0 : World) (gs : Nat) (S : Nat → Option SkD) (M : Nat → MemS) (j : Nat) (dj : SkD) (n : Nat) (ds : List UInt8) (w : World) (e : Ending) (w' : World) : Prop :=
  e = .returned (.tuple #[.int .i64 (n : Int), .int .i64 0]) ∧ ∃ vi', SkAt w0 gs (updN S j (some { dj with inn := dj.inn ++ ds })) (updN M j ⟨(M j).b, (M j).vq, vi'⟩) w' ∧ Kept3 (M j).b nilV (M j).vi w w'
def opIn : Op := Op.load 22 (Operand.tmp 58)
theorem opIn_eq : opIn = Op.load 22 (Operand.tmp 58) := rfl
set_option maxHeartbeats 2000000 in
set_option maxRecDepth 100000 in
theorem write_ok {w0 : World} {gs : Nat} {S : Nat → Option SkD} {M : Nat → MemS} (i j : Nat) (di dj : SkD) (D : Option Addr) (n cd B : Nat) (ds : List UInt8) (w : World) (h : SkAt w0 gs S M w) (hi : i < 16) (hSi : S i = some di) (hki : di.kind = 3) (hsh : di.shut = false) (hj : j < 16) (hpe : di.peer = (j : Int) + 1) (hSj : S j = some dj)
    (hd : Reads w B 1 D n (bytesV ds)) (hnc : n ≤ cd) (hn0 : 0 < n) (hfit : dj.inn.length + n ≤ 64) :
    Calls Try.prog 10 #[.pointer (some ⟨gs, 0, none⟩), .int .i64 ((i : Int) + 1), .slice D n cd] w (WritePost w0 gs S M j dj n ds w) := by
  obtain ⟨i0, hi0, hz0, hz1, hz2⟩ := info_parts byte_info
  have HJ := hide (joined_at i di w h hi hSi hki j hj hpe)
  have hbi := h.box i di hSi
  have hbj := h.box j dj hSj
  obtain ⟨Ai, ci, hvi, hci, hcm, -⟩ := own_form (h.inn j dj hSj)
  have c6 : w.cell? ⟨(M i).b, 6, none⟩ = some (.bool di.shut) := hbi.cell 6
  have d5 : w.cell? ⟨(M j).b, 5, none⟩ = some (M j).vi := hbj.cell 5
  have f5 := hbj.frozen 5
  rw [hsh] at c6
  rw [hvi] at d5
  simp only [ptrS, hSj, Option.isSome_some, if_true] at HJ
  have HRD := hide hd
  have HH := hide h
  have HS := hide hSj
  have HBJ := hide hbj
  have HOJ := hide (h.inn j dj hSj)
  have HVI := hide hvi
  have hs0 : w0.heap.size ≤ w.heap.size := h.ext.size
  unfold maxLen at hcm
  clear h hSi hSj hki hsh hpe hd hbi hbj hvi
  obtain ⟨bi, hbi'⟩ : ∃ b, (M i).b = b := ⟨_, rfl⟩
  obtain ⟨bj, hbj'⟩ : ∃ b, (M j).b = b := ⟨_, rfl⟩
  obtain ⟨l, hle⟩ : ∃ x, dj.inn.length = x := ⟨_, rfl⟩
  rw [hbi'] at c6 HJ
  rw [hbj'] at d5 f5 HJ HBJ
  rw [hle] at d5 hfit hci
  rw [HVI.out, hle] at HOJ HBJ
  have HBI := hide hbi'
  have HBJ' := hide hbj'
  have HL := hide hle
  clear hbi' hbj' hle
  have tf : ((l : Int) == 64) = false := by simp; omega
  have tg : ¬ ((64 : Int) - (l : Int) < (n : Int)) := by omega
  have hncI : (n : Int) ≤ (cd : Int) := by omega
  go_enter Try.func10, Try.ntmps10
  go_wp2_with fail
  refine HJ.out.mono ?_
  rintro e w' ⟨rfl, rfl⟩
  go_upto_region 13 with fail
  rw [← opIn_eq]
  have hOp := opIn_eq
  have HOJ2 := hide (show w.drew.ownsRow w0.heap.size 5 1 (.slice Ai l ci) l (bytesV dj.inn) from HOJ.out.drew)
  have HBJ2 := hide HBJ.out.drew
  go_region_held3 (fun _ => True) (trivial)
    (first | (refine step_append_any _ (by rfl) (.tmp 59) (.tmp 62) 22 (by rfl) w0.heap.size 5 i0 _ 1 1 Try.underlying22 hi0 hz0 hz1 hz2 rfl (by omega) (.slice Ai l ci) l (bytesV dj.inn) (by rfl) HOJ2.out B D n cd (bytesV ds) (by rfl) HRD.out.drew (bytesV_one _) (by simp only [maxLen]; omega) (by omega) hs0 ?_; intro A7 c7 w7 ho7 hg7 ha7; have n5 : w7.cell? ⟨bj, 5, none⟩ = some (.slice Ai l ci) := hg7.cell (HBJ2.out.cell 5) (fun e => own_blk_ne HOJ2.out HBJ2.out (by decide) e.symm); have nf : w7.frozen? ⟨bj, 5, none⟩ = false := (HBJ2.out.grown hg7 (fun e => own_blk_ne HOJ2.out HBJ2.out (by decide) e.symm)).frozen 5) | fail)
  go_wp2_with fail
  go_ret2
  have hb7 : Blk w7 bj 49 _ := HBJ2.out.grown hg7 (fun e => own_blk_ne HOJ2.out HBJ2.out (by decide) e.symm)
  refine ⟨rfl, .slice A7 (l + n) c7, ?_, ?_⟩
  · exact HH.out.mod (w' := w7.setCell ⟨bj, 5, none⟩ (.slice A7 (l + n) c7)) j dj { dj with inn := dj.inn ++ ds } ⟨(M j).b, (M j).vq, .slice A7 (l + n) c7⟩ HS.out rfl
      (by
        rw [HBJ'.out, HVI.out, HL.out]
        refine ⟨hg7.os, hg7.tape, hg7.output, by simpa using hg7.size, fun x hx h1 _ h3 => ?_⟩
        rw [Below.heap_setCell _ _ _ _ (by show x ≠ bj; exact h1)]
        exact hg7.block x hx h3)
      (by rw [HBJ'.out]; exact hb7.set_ 5 _)
      (by
        have hq := HH.out.q j dj HS.out
        have hnb := own_blk_ne hq HBJ.out (by decide)
        refine own_of_keep hq (fun x hv => ?_)
        rw [Below.heap_setCell _ _ _ _ (by show x ≠ bj; exact fun e => hnb (by rw [hv, e]))]
        exact hg7.block x (hq.lt x hv).2 (fun e => own_ne_own hq HOJ.out (by decide) hv e.symm))
      (by
        have h2 := own_far (p := ⟨bj, 5, none⟩) ho7 (own_blk_ne ho7 hb7 (by decide)) (.slice A7 (l + n) c7)
        have hdl : ds.length = n := by have := HRD.out.1; rw [bytesV_length] at this; omega
        rw [List.length_append, HL.out, hdl, bytesV_append]
        exact h2)
      (.inl rfl)
      (by
        rw [HVI.out, HL.out]
        rcases ha7 with ha7 | ha7
        · exact .inl ha7
        · refine .inr (fun x hx => ?_)
          rw [ha7] at hx
          injection hx with hx
          exact Nat.le_of_eq hx)
  · rw [HBJ'.out, HVI.out, HL.out]
    refine ⟨hg7.os, hg7.tape, hg7.output, by simpa using hg7.size, fun x hx h1 _ h3 => ?_⟩
    rw [Below.heap_setCell _ _ _ _ (by show x ≠ bj; exact h1)]
    exact hg7.block x hx h3
/-- What a read of n bytes gives. -/
def ReadPost (w0 : World) (gs : Nat) (S : Nat → Option SkD) (M : Nat → MemS) (i : Nat) (di : SkD) (k : Nat) (w : World) (e : Ending) (w' : World) : Prop :=
  ∃ A c, e = .returned (.tuple #[.slice A k c, .int .i64 0]) ∧ w'.ownsRow w.heap.size 5 1 (.slice A k c) k (bytesV (di.inn.take k)) ∧ ∃ vi', SkAt w0 gs (updN S i (some { di with inn := di.inn.drop k })) (updN M i ⟨(M i).b, (M i).vq, vi'⟩) w' ∧ w.grownBy w' (some (M i).b)
set_option maxHeartbeats 2000000 in
set_option maxRecDepth 100000 in
/-- Where there is something to read, or nobody who would write. -/
theorem read_ok {w0 : World} {gs : Nat} {S : Nat → Option SkD} {M : Nat → MemS} (i : Nat) (di : SkD) (n k : Nat) (pj : Value) (w : World) (h : SkAt w0 gs S M w) (hi : i < 16) (hSi : S i = some di) (hjo : Calls Try.prog 22 #[.pointer (some ⟨gs, 0, none⟩), .int .i64 ((i : Int) + 1)] w fun e w' => e = .returned (.tuple #[.pointer (some ⟨(M i).b, 0, none⟩), pj, .int .i64 0]) ∧ w = w')
    (hn : n ≤ 256) (hl : di.inn.length ≤ 64) (hk : k = min n di.inn.length) (hcase : 0 < di.inn.length ∨ pj = .pointer none ∨ ∃ b, pj = .pointer (some ⟨b, 0, none⟩) ∧ w.cell? ⟨b, 6, none⟩ = some (.bool true)) :
    Calls Try.prog 11 #[.pointer (some ⟨gs, 0, none⟩), .int .i64 ((i : Int) + 1), .int .i64 n] w (ReadPost w0 gs S M i di k w) := by
  obtain ⟨i0, hi0, hz0, hz1, hz2⟩ := info_parts byte_info
  have hbi := h.box i di hSi
  have hoi := h.inn i di hSi
  obtain ⟨Ai, ci, hvi, hci, hcm, hnil⟩ := own_form hoi
  rw [hvi] at hoi
  have c5 : w.cell? ⟨(M i).b, 5, none⟩ = some (M i).vi := hbi.cell 5
  rw [hvi] at c5
  have f5 := hbi.frozen 5
  have HJ := hide hjo
  have HH := hide h
  have HS := hide hSi
  have HB := hide hbi
  obtain ⟨l, hle⟩ : ∃ x, di.inn.length = x := ⟨_, rfl⟩
  rw [hle] at c5 hl hk hcase hci hoi hnil
  have HL := hide hle
  unfold maxLen at hcm
  have hkl : k ≤ l := by omega
  obtain ⟨A', hcut0, hrd, hnl⟩ := cut_from (P := Try.prog) Try.underlying22 hi0 hz1 (Reads.of_own hoi) k ci hkl hci .i64
  obtain ⟨r, hr⟩ : ∃ r, l - k = r := ⟨_, rfl⟩
  obtain ⟨cr, hcr⟩ : ∃ r, ci - k = r := ⟨_, rfl⟩
  rw [hr, hcr] at hcut0
  rw [hr] at hrd
  have HR1 := hide (show Reads w w.heap.size 1 Ai k (bytesV (di.inn.take k)) by rw [← bytesV_take]; exact (Reads.of_own hoi).take hkl)
  have HR2 := hide (show Reads w w.heap.size 1 A' r (bytesV (di.inn.drop k)) by rw [← bytesV_drop]; exact hrd)
  have HN1 := hide (show Ai = none → k = 0 from fun h0 => by have := (hnil h0).1; omega)
  have HN2 := hide (show A' = none → r = 0 from fun h0 => by have := (hnil (hnl h0)).1; omega)
  have HRE := hide hr
  have hr64 : r ≤ 64 := by omega
  have hki : (k : Int) ≤ (ci : Int) := by omega
  have hk0 : (0 : Int) ≤ (k : Int) := by omega
  have hk64 : k ≤ 64 := by omega
  clear h hSi hjo hbi hoi hvi hle hr hcr hrd hnl hnil
  obtain ⟨bi, hbi'⟩ : ∃ b, (M i).b = b := ⟨_, rfl⟩
  rw [hbi'] at c5 f5 HJ HB
  have HBI := hide hbi'
  clear hbi'
  by_cases hl0 : 0 < l
  · have tl : ((l : Int) == 0) = false := by simp; omega
    have tl' : (l == 0) = false := by simp; omega
    clear hcase
    by_cases hln : l < n
    · obtain rfl : k = l := by omega
      clear hk
      go_enter Try.func11, Try.ntmps11
      go_wp2_with fail
      refine HJ.out.mono ?_
      rintro e w' ⟨rfl, rfl⟩
      go_wp2_with fail
      refine (bclone_any Ai k ci w.heap.size (bytesV (di.inn.take k)) w HR1.out (bytesV_one _) (Nat.le_refl _) (by omega) HN1.out).mono ?_
      rintro e w1 ⟨A1, c1, rfl, ho1, hx1⟩
      have HO1 := hide ho1
      have HX1 := hide hx1
      have d5 : w1.cell? ⟨bi, 5, none⟩ = some _ := hx1.cell c5
      have g5 : w1.frozen? ⟨bi, 5, none⟩ = false := (hx1.frozen c5).trans f5
      clear ho1 hx1 c5 f5
      go_wp2_with fail
      refine (bclone_any A' r cr w.heap.size (bytesV (di.inn.drop k)) w1 (HX1.out.reads HR2.out (Nat.le_refl _)) (bytesV_one _) HX1.out.size (by omega) HN2.out).mono ?_
      rintro e w2 ⟨A2, c2, rfl, ho2, hx2⟩
      have HO2 := hide ho2
      have HX2 := hide hx2
      have e5 : w2.cell? ⟨bi, 5, none⟩ = some _ := hx2.cell d5
      have q5 : w2.frozen? ⟨bi, 5, none⟩ = false := (hx2.frozen d5).trans g5
      clear ho2 hx2 d5 g5
      go_wp2_with fail
      go_ret2
      have hx : Ext w w2 := HX1.out.trans HX2.out
      have hbw := HB.out.ext hx
      have hg : w.grownBy (w2.setCell ⟨bi, 5, none⟩ (.slice A2 r c2)) (some bi) := grown_set ⟨hx.os, hx.tape, hx.output, hx.size, fun k hk _ => hx.block k hk⟩ 5 _
      have ho1' := HX2.out.own HO1.out
      refine ⟨A1, c1, rfl, own_far (p := ⟨bi, 5, none⟩) ho1' (own_blk_ne ho1' hbw (by decide)) _, .slice A2 r c2, ?_, by rw [HBI.out]; exact hg⟩
      refine HH.out.mod i di { di with inn := di.inn.drop k } ⟨(M i).b, (M i).vq, .slice A2 r c2⟩ HS.out rfl (by rw [HBI.out]; exact Kept3.of_grown hg) (by rw [HBI.out]; exact hbw.set_ 5 _) ?_ ?_ (.inl rfl) (.inr (fun k hk => Nat.le_trans HX1.out.size (HO2.out.lt k hk).1))
      · have hq := HH.out.q i di HS.out
        exact own_of_keep hq (fun k hv => hg.block k (hq.lt k hv).2 (fun e => own_blk_ne hq HB.out (by decide) (by rw [hv, e])))
      · have h2 := own_mono (own_far (p := ⟨bi, 5, none⟩) HO2.out (own_blk_ne HO2.out hbw (by decide)) (.slice A2 r c2)) (Nat.le_trans HH.out.ext.size HX1.out.size)
        have hrl : (di.inn.drop k).length = r := by rw [List.length_drop, HL.out]; exact HRE.out
        dsimp only
        rw [hrl]
        exact h2
    · obtain rfl : k = n := by omega
      clear hk
      by_cases hz : k = 0
      · subst hz
        have hcut : ∀ W, (Instr.slice 22 (.slice Ai l ci) (some (.int .i64 0)) none none).run Try.prog W = .ok (.slice A' r cr) W := hcut0
        clear hcut0
        go_enter Try.func11, Try.ntmps11
        go_wp2_with fail
        refine HJ.out.mono ?_
        rintro e w' ⟨rfl, rfl⟩
        go_wp2_with fail
        refine (bclone_any Ai 0 ci w.heap.size (bytesV (di.inn.take 0)) w HR1.out (bytesV_one _) (Nat.le_refl _) (by omega) (fun _ => rfl)).mono ?_
        rintro e w1 ⟨A1, c1, rfl, ho1, hx1⟩
        have HO1 := hide ho1
        have HX1 := hide hx1
        have d5 : w1.cell? ⟨bi, 5, none⟩ = some _ := hx1.cell c5
        have g5 : w1.frozen? ⟨bi, 5, none⟩ = false := (hx1.frozen c5).trans f5
        clear ho1 hx1 c5 f5
        go_wp2_with fail
        refine (bclone_any A' r cr w.heap.size (bytesV (di.inn.drop 0)) w1 (HX1.out.reads HR2.out (Nat.le_refl _)) (bytesV_one _) HX1.out.size (by omega) HN2.out).mono ?_
        rintro e w2 ⟨A2, c2, rfl, ho2, hx2⟩
        have HO2 := hide ho2
        have HX2 := hide hx2
        have e5 : w2.cell? ⟨bi, 5, none⟩ = some _ := hx2.cell d5
        have q5 : w2.frozen? ⟨bi, 5, none⟩ = false := (hx2.frozen d5).trans g5
        clear ho2 hx2 d5 g5
        go_wp2_with fail
        go_ret2
        have hx : Ext w w2 := HX1.out.trans HX2.out
        have hbw := HB.out.ext hx
        have hg : w.grownBy (w2.setCell ⟨bi, 5, none⟩ (.slice A2 r c2)) (some bi) := grown_set ⟨hx.os, hx.tape, hx.output, hx.size, fun k hk _ => hx.block k hk⟩ 5 _
        have ho1' := HX2.out.own HO1.out
        refine ⟨A1, c1, rfl, own_far (p := ⟨bi, 5, none⟩) ho1' (own_blk_ne ho1' hbw (by decide)) _, .slice A2 r c2, ?_, by rw [HBI.out]; exact hg⟩
        refine HH.out.mod i di { di with inn := di.inn.drop 0 } ⟨(M i).b, (M i).vq, .slice A2 r c2⟩ HS.out rfl (by rw [HBI.out]; exact Kept3.of_grown hg) (by rw [HBI.out]; exact hbw.set_ 5 _) ?_ ?_ (.inl rfl) (.inr (fun k hk => Nat.le_trans HX1.out.size (HO2.out.lt k hk).1))
        · have hq := HH.out.q i di HS.out
          exact own_of_keep hq (fun k hv => hg.block k (hq.lt k hv).2 (fun e => own_blk_ne hq HB.out (by decide) (by rw [hv, e])))
        · have h2 := own_mono (own_far (p := ⟨bi, 5, none⟩) HO2.out (own_blk_ne HO2.out hbw (by decide)) (.slice A2 r c2)) (Nat.le_trans HH.out.ext.size HX1.out.size)
          have hrl : (di.inn.drop 0).length = r := by rw [List.length_drop, HL.out]; exact HRE.out
          dsimp only
          rw [hrl]
          exact h2
      · have hkp : 0 < k := by omega
        go_enter Try.func11, Try.ntmps11
        go_wp2_with fail
        refine HJ.out.mono ?_
        rintro e w' ⟨rfl, rfl⟩
        go_wp2_with fail
        refine (bclone_any Ai k ci w.heap.size (bytesV (di.inn.take k)) w HR1.out (bytesV_one _) (Nat.le_refl _) (by omega) HN1.out).mono ?_
        rintro e w1 ⟨A1, c1, rfl, ho1, hx1⟩
        have HO1 := hide ho1
        have HX1 := hide hx1
        have d5 : w1.cell? ⟨bi, 5, none⟩ = some _ := hx1.cell c5
        have g5 : w1.frozen? ⟨bi, 5, none⟩ = false := (hx1.frozen c5).trans f5
        clear ho1 hx1 c5 f5
        go_wp2_with fail
        refine (bclone_any A' r cr w.heap.size (bytesV (di.inn.drop k)) w1 (HX1.out.reads HR2.out (Nat.le_refl _)) (bytesV_one _) HX1.out.size (by omega) HN2.out).mono ?_
        rintro e w2 ⟨A2, c2, rfl, ho2, hx2⟩
        have HO2 := hide ho2
        have HX2 := hide hx2
        have e5 : w2.cell? ⟨bi, 5, none⟩ = some _ := hx2.cell d5
        have q5 : w2.frozen? ⟨bi, 5, none⟩ = false := (hx2.frozen d5).trans g5
        clear ho2 hx2 d5 g5
        go_wp2_with fail
        go_ret2
        have hx : Ext w w2 := HX1.out.trans HX2.out
        have hbw := HB.out.ext hx
        have hg : w.grownBy (w2.setCell ⟨bi, 5, none⟩ (.slice A2 r c2)) (some bi) := grown_set ⟨hx.os, hx.tape, hx.output, hx.size, fun k hk _ => hx.block k hk⟩ 5 _
        have ho1' := HX2.out.own HO1.out
        refine ⟨A1, c1, rfl, own_far (p := ⟨bi, 5, none⟩) ho1' (own_blk_ne ho1' hbw (by decide)) _, .slice A2 r c2, ?_, by rw [HBI.out]; exact hg⟩
        refine HH.out.mod i di { di with inn := di.inn.drop k } ⟨(M i).b, (M i).vq, .slice A2 r c2⟩ HS.out rfl (by rw [HBI.out]; exact Kept3.of_grown hg) (by rw [HBI.out]; exact hbw.set_ 5 _) ?_ ?_ (.inl rfl) (.inr (fun k hk => Nat.le_trans HX1.out.size (HO2.out.lt k hk).1))
        · have hq := HH.out.q i di HS.out
          exact own_of_keep hq (fun k hv => hg.block k (hq.lt k hv).2 (fun e => own_blk_ne hq HB.out (by decide) (by rw [hv, e])))
        · have h2 := own_mono (own_far (p := ⟨bi, 5, none⟩) HO2.out (own_blk_ne HO2.out hbw (by decide)) (.slice A2 r c2)) (Nat.le_trans HH.out.ext.size HX1.out.size)
          have hrl : (di.inn.drop k).length = r := by rw [List.length_drop, HL.out]; exact HRE.out
          dsimp only
          rw [hrl]
          exact h2
  · obtain rfl : l = 0 := by omega
    obtain rfl : k = 0 := by omega
    have hcut : ∀ W, (Instr.slice 22 (.slice Ai 0 ci) (some (.int .i64 0)) none none).run Try.prog W = .ok (.slice A' r cr) W := hcut0
    clear hcut0 hk
    by_cases hn0 : n = 0
    · subst hn0
      clear hcase
      go_enter Try.func11, Try.ntmps11
      go_wp2_with fail
      refine HJ.out.mono ?_
      rintro e w' ⟨rfl, rfl⟩
      go_wp2_with fail
      refine (bclone_any Ai 0 ci w.heap.size (bytesV (di.inn.take 0)) w HR1.out (bytesV_one _) (Nat.le_refl _) (by omega) (fun _ => rfl)).mono ?_
      rintro e w1 ⟨A1, c1, rfl, ho1, hx1⟩
      have HO1 := hide ho1
      have HX1 := hide hx1
      have d5 : w1.cell? ⟨bi, 5, none⟩ = some _ := hx1.cell c5
      have g5 : w1.frozen? ⟨bi, 5, none⟩ = false := (hx1.frozen c5).trans f5
      clear ho1 hx1 c5 f5
      go_wp2_with fail
      refine (bclone_any A' r cr w.heap.size (bytesV (di.inn.drop 0)) w1 (HX1.out.reads HR2.out (Nat.le_refl _)) (bytesV_one _) HX1.out.size (by omega) HN2.out).mono ?_
      rintro e w2 ⟨A2, c2, rfl, ho2, hx2⟩
      have HO2 := hide ho2
      have HX2 := hide hx2
      have e5 : w2.cell? ⟨bi, 5, none⟩ = some _ := hx2.cell d5
      have q5 : w2.frozen? ⟨bi, 5, none⟩ = false := (hx2.frozen d5).trans g5
      clear ho2 hx2 d5 g5
      go_wp2_with fail
      go_ret2
      have hx : Ext w w2 := HX1.out.trans HX2.out
      have hbw := HB.out.ext hx
      have hg : w.grownBy (w2.setCell ⟨bi, 5, none⟩ (.slice A2 r c2)) (some bi) := grown_set ⟨hx.os, hx.tape, hx.output, hx.size, fun k hk _ => hx.block k hk⟩ 5 _
      have ho1' := HX2.out.own HO1.out
      refine ⟨A1, c1, rfl, own_far (p := ⟨bi, 5, none⟩) ho1' (own_blk_ne ho1' hbw (by decide)) _, .slice A2 r c2, ?_, by rw [HBI.out]; exact hg⟩
      refine HH.out.mod i di { di with inn := di.inn.drop 0 } ⟨(M i).b, (M i).vq, .slice A2 r c2⟩ HS.out rfl (by rw [HBI.out]; exact Kept3.of_grown hg) (by rw [HBI.out]; exact hbw.set_ 5 _) ?_ ?_ (.inl rfl) (.inr (fun k hk => Nat.le_trans HX1.out.size (HO2.out.lt k hk).1))
      · have hq := HH.out.q i di HS.out
        exact own_of_keep hq (fun k hv => hg.block k (hq.lt k hv).2 (fun e => own_blk_ne hq HB.out (by decide) (by rw [hv, e])))
      · have h2 := own_mono (own_far (p := ⟨bi, 5, none⟩) HO2.out (own_blk_ne HO2.out hbw (by decide)) (.slice A2 r c2)) (Nat.le_trans HH.out.ext.size HX1.out.size)
        have hrl : (di.inn.drop 0).length = r := by rw [List.length_drop, HL.out]; exact HRE.out
        dsimp only
        rw [hrl]
        exact h2
    · have hnp : 0 < n := by omega
      rcases hcase with hc | rfl | ⟨b, rfl, hcb⟩
      · exact absurd hc (by omega)
      · go_enter Try.func11, Try.ntmps11
        go_wp2_with fail
        refine HJ.out.mono ?_
        rintro e w' ⟨rfl, rfl⟩
        go_wp2_with fail
        refine (bclone_any Ai 0 ci w.heap.size (bytesV (di.inn.take 0)) w HR1.out (bytesV_one _) (Nat.le_refl _) (by omega) (fun _ => rfl)).mono ?_
        rintro e w1 ⟨A1, c1, rfl, ho1, hx1⟩
        have HO1 := hide ho1
        have HX1 := hide hx1
        have d5 : w1.cell? ⟨bi, 5, none⟩ = some _ := hx1.cell c5
        have g5 : w1.frozen? ⟨bi, 5, none⟩ = false := (hx1.frozen c5).trans f5
        clear ho1 hx1 c5 f5
        go_wp2_with fail
        refine (bclone_any A' r cr w.heap.size (bytesV (di.inn.drop 0)) w1 (HX1.out.reads HR2.out (Nat.le_refl _)) (bytesV_one _) HX1.out.size (by omega) HN2.out).mono ?_
        rintro e w2 ⟨A2, c2, rfl, ho2, hx2⟩
        have HO2 := hide ho2
        have HX2 := hide hx2
        have e5 : w2.cell? ⟨bi, 5, none⟩ = some _ := hx2.cell d5
        have q5 : w2.frozen? ⟨bi, 5, none⟩ = false := (hx2.frozen d5).trans g5
        clear ho2 hx2 d5 g5
        go_wp2_with fail
        go_ret2
        have hx : Ext w w2 := HX1.out.trans HX2.out
        have hbw := HB.out.ext hx
        have hg : w.grownBy (w2.setCell ⟨bi, 5, none⟩ (.slice A2 r c2)) (some bi) := grown_set ⟨hx.os, hx.tape, hx.output, hx.size, fun k hk _ => hx.block k hk⟩ 5 _
        have ho1' := HX2.out.own HO1.out
        refine ⟨A1, c1, rfl, own_far (p := ⟨bi, 5, none⟩) ho1' (own_blk_ne ho1' hbw (by decide)) _, .slice A2 r c2, ?_, by rw [HBI.out]; exact hg⟩
        refine HH.out.mod i di { di with inn := di.inn.drop 0 } ⟨(M i).b, (M i).vq, .slice A2 r c2⟩ HS.out rfl (by rw [HBI.out]; exact Kept3.of_grown hg) (by rw [HBI.out]; exact hbw.set_ 5 _) ?_ ?_ (.inl rfl) (.inr (fun k hk => Nat.le_trans HX1.out.size (HO2.out.lt k hk).1))
        · have hq := HH.out.q i di HS.out
          exact own_of_keep hq (fun k hv => hg.block k (hq.lt k hv).2 (fun e => own_blk_ne hq HB.out (by decide) (by rw [hv, e])))
        · have h2 := own_mono (own_far (p := ⟨bi, 5, none⟩) HO2.out (own_blk_ne HO2.out hbw (by decide)) (.slice A2 r c2)) (Nat.le_trans HH.out.ext.size HX1.out.size)
          have hrl : (di.inn.drop 0).length = r := by rw [List.length_drop, HL.out]; exact HRE.out
          dsimp only
          rw [hrl]
          exact h2
      · go_enter Try.func11, Try.ntmps11
        go_wp2_with fail
        refine HJ.out.mono ?_
        rintro e w' ⟨rfl, rfl⟩
        go_wp2_with fail
        refine (bclone_any Ai 0 ci w.heap.size (bytesV (di.inn.take 0)) w HR1.out (bytesV_one _) (Nat.le_refl _) (by omega) (fun _ => rfl)).mono ?_
        rintro e w1 ⟨A1, c1, rfl, ho1, hx1⟩
        have HO1 := hide ho1
        have HX1 := hide hx1
        have d5 : w1.cell? ⟨bi, 5, none⟩ = some _ := hx1.cell c5
        have g5 : w1.frozen? ⟨bi, 5, none⟩ = false := (hx1.frozen c5).trans f5
        clear ho1 hx1 c5 f5
        go_wp2_with fail
        refine (bclone_any A' r cr w.heap.size (bytesV (di.inn.drop 0)) w1 (HX1.out.reads HR2.out (Nat.le_refl _)) (bytesV_one _) HX1.out.size (by omega) HN2.out).mono ?_
        rintro e w2 ⟨A2, c2, rfl, ho2, hx2⟩
        have HO2 := hide ho2
        have HX2 := hide hx2
        have e5 : w2.cell? ⟨bi, 5, none⟩ = some _ := hx2.cell d5
        have q5 : w2.frozen? ⟨bi, 5, none⟩ = false := (hx2.frozen d5).trans g5
        clear ho2 hx2 d5 g5
        go_wp2_with fail
        go_ret2
        have hx : Ext w w2 := HX1.out.trans HX2.out
        have hbw := HB.out.ext hx
        have hg : w.grownBy (w2.setCell ⟨bi, 5, none⟩ (.slice A2 r c2)) (some bi) := grown_set ⟨hx.os, hx.tape, hx.output, hx.size, fun k hk _ => hx.block k hk⟩ 5 _
        have ho1' := HX2.out.own HO1.out
        refine ⟨A1, c1, rfl, own_far (p := ⟨bi, 5, none⟩) ho1' (own_blk_ne ho1' hbw (by decide)) _, .slice A2 r c2, ?_, by rw [HBI.out]; exact hg⟩
        refine HH.out.mod i di { di with inn := di.inn.drop 0 } ⟨(M i).b, (M i).vq, .slice A2 r c2⟩ HS.out rfl (by rw [HBI.out]; exact Kept3.of_grown hg) (by rw [HBI.out]; exact hbw.set_ 5 _) ?_ ?_ (.inl rfl) (.inr (fun k hk => Nat.le_trans HX1.out.size (HO2.out.lt k hk).1))
        · have hq := HH.out.q i di HS.out
          exact own_of_keep hq (fun k hv => hg.block k (hq.lt k hv).2 (fun e => own_blk_ne hq HB.out (by decide) (by rw [hv, e])))
        · have h2 := own_mono (own_far (p := ⟨bi, 5, none⟩) HO2.out (own_blk_ne HO2.out hbw (by decide)) (.slice A2 r c2)) (Nat.le_trans HH.out.ext.size HX1.out.size)
          have hrl : (di.inn.drop 0).length = r := by rw [List.length_drop, HL.out]; exact HRE.out
          dsimp only
          rw [hrl]
          exact h2
end Go.Proofs.Ytnniicmpbcfinaa
