/- The contract of seg.Decode. -/
import Derived.Test.YtacfffegmmdgfaaSgLeaf
import Derived.Deep.RegionHeld3
import Derived.Deep.DeepCutAuto
namespace Go.Proofs.Ytacfffegmmdgfaa.Sg
open Go.RowKit
set_option linter.unusedVariables false

/-- The segment that is none, and an error. -/
def NoSeg (er : Int) : Value := .tuple #[.agg #[.int .u32 0, .int .u32 0, .int .i64 0, .int .i64 0, .slice none 0 0], .int .i64 er]

theorem check_arg (s a fl wn : Int) (A : Option Addr) (n c : Nat) (w : World) (h1 : 15 < fl) :
    Calls Try.prog 34 #[.agg #[.int .u32 s, .int .u32 a, .int .i64 fl, .int .i64 wn, .slice A n c]] w fun e w' => e = .returned (.int .i64 1) ∧ w.alloc (.cells #[.int .u32 s, .int .u32 a, .int .i64 fl, .int .i64 wn, .slice A n c] 60) = w' := by
  have h0 : ¬ fl < 0 := by omega
  go_enter Try.func34, Try.ntmps34
  go_wp2
  go_ret
  exact ⟨rfl, rfl⟩
theorem check_large (s a fl wn : Int) (A : Option Addr) (n c : Nat) (w : World) (h1 : 0 ≤ fl) (h2 : fl ≤ 15) (h3 : 0 ≤ wn) (h4 : wn ≤ 255) (h5 : 32 < n) :
    Calls Try.prog 34 #[.agg #[.int .u32 s, .int .u32 a, .int .i64 fl, .int .i64 wn, .slice A n c]] w fun e w' => e = .returned (.int .i64 2) ∧ w.alloc (.cells #[.int .u32 s, .int .u32 a, .int .i64 fl, .int .i64 wn, .slice A n c] 60) = w' := by
  go_enter Try.func34, Try.ntmps34
  go_wp2
  go_ret
  exact ⟨rfl, rfl⟩

set_option maxHeartbeats 1000000 in
set_option maxRecDepth 100000 in
/-- Too short. -/
theorem decode_short (bs : List UInt8) (A : Option Addr) (n c B : Nat) (w : World) (hr : Reads w B 1 A n (bytesV bs)) (hB : B ≤ w.heap.size) (hnc : n ≤ c) (hc : c ≤ maxLen) (h : n < 14 ∨ n < 14 + (bs.getD 10 0).toNat) :
    Calls Try.prog 28 #[.slice A n c] w fun e w' => e = .returned (NoSeg 21) ∧ Ext w w' := by
  unfold maxLen at hc
  by_cases h1 : n < 14
  · clear h hr
    go_enter Try.func28, Try.ntmps28
    go_wp2
    exact bodyPost_ret (v := NoSeg 21) (by simp [results, Try.results28, go_sem, NoSeg]) rfl ⟨rfl, by ((repeat (first | with_reducible exact Ext.refl _ | with_reducible assumption | with_reducible refine Ext.alloc ?_ _ | with_reducible refine Ext.drew ?_ | with_reducible refine Ext.drewN ?_ _ | with_reducible refine Ext.setCell ?_ (by first | exact Nat.le_refl _ | assumption | (simp; done) | omega) _ | with_reducible refine Ext.trans ?_ (by with_reducible assumption))); done)⟩
  · have h2 : n < 14 + (bs.getD 10 0).toNat := by omega
    obtain ⟨b, off, rfl, hb, hcell⟩ := hr.at1 (by omega)
    have k10 := hcell 10 (by omega)
    rw [bytesV_getElem] at k10
    clear hcell hr h
    have hx := (bs.getD 10 0).toNat_lt
    generalize (bs.getD 10 0).toNat = x at *
    have hlt : b < w.heap.size := by omega
    have hal := alloc_old w
    go_enter Try.func28, Try.ntmps28
    go_wp2
    exact bodyPost_ret (v := NoSeg 21) (by simp [results, Try.results28, go_sem, NoSeg]) rfl ⟨rfl, by ((repeat (first | with_reducible exact Ext.refl _ | with_reducible assumption | with_reducible refine Ext.alloc ?_ _ | with_reducible refine Ext.drew ?_ | with_reducible refine Ext.drewN ?_ _ | with_reducible refine Ext.setCell ?_ (by first | exact Nat.le_refl _ | assumption | (simp; done) | omega) _ | with_reducible refine Ext.trans ?_ (by with_reducible assumption))); done)⟩

set_option maxHeartbeats 1000000 in
set_option maxRecDepth 100000 in
/-- Not in a right form. -/
theorem decode_form (bs : List UInt8) (A : Option Addr) (n c B : Nat) (w : World) (hr : Reads w B 1 A n (bytesV bs)) (hB : B ≤ w.heap.size) (hnc : n ≤ c) (hc : c ≤ maxLen) (h14 : 14 ≤ n) (h : 14 + (bs.getD 10 0).toNat ≤ n) (h' : 14 + (bs.getD 10 0).toNat < n ∨ bs.getD 11 0 ≠ 0) :
    Calls Try.prog 28 #[.slice A n c] w fun e w' => e = .returned (NoSeg 3) ∧ Ext w w' := by
  unfold maxLen at hc
  obtain ⟨b, off, rfl, hb, hcell⟩ := hr.at1 (by omega)
  have k10 := hcell 10 (by omega)
  have k11 := hcell 11 (by omega)
  rw [bytesV_getElem] at k10 k11
  clear hcell hr
  have hx := (bs.getD 10 0).toNat_lt
  have hy := (bs.getD 11 0).toNat_lt
  have h'' : 14 + (bs.getD 10 0).toNat < n ∨ (bs.getD 11 0).toNat ≠ 0 := h'.imp id fun h e => h (UInt8.toNat_inj.1 e)
  clear h'
  generalize (bs.getD 10 0).toNat = x at *
  generalize (bs.getD 11 0).toNat = y at *
  have hlt : b < w.heap.size := by omega
  have hal := alloc_old w
  by_cases h2 : 14 + x < n
  · clear h''
    go_enter Try.func28, Try.ntmps28
    go_wp2
    exact bodyPost_ret (v := NoSeg 3) (by simp [results, Try.results28, go_sem, NoSeg]) rfl ⟨rfl, by ((repeat (first | with_reducible exact Ext.refl _ | with_reducible assumption | with_reducible refine Ext.alloc ?_ _ | with_reducible refine Ext.drew ?_ | with_reducible refine Ext.drewN ?_ _ | with_reducible refine Ext.setCell ?_ (by first | exact Nat.le_refl _ | assumption | (simp; done) | omega) _ | with_reducible refine Ext.trans ?_ (by with_reducible assumption))); done)⟩
  · have h3 : (((y : Int)) != 0) = true := by rw [bne_iff_ne]; omega
    clear h''
    go_enter Try.func28, Try.ntmps28
    go_wp2
    exact bodyPost_ret (v := NoSeg 3) (by simp [results, Try.results28, go_sem, NoSeg]) rfl ⟨rfl, by ((repeat (first | with_reducible exact Ext.refl _ | with_reducible assumption | with_reducible refine Ext.alloc ?_ _ | with_reducible refine Ext.drew ?_ | with_reducible refine Ext.drewN ?_ _ | with_reducible refine Ext.setCell ?_ (by first | exact Nat.le_refl _ | assumption | (simp; done) | omega) _ | with_reducible refine Ext.trans ?_ (by with_reducible assumption))); done)⟩

/-- What Decode leaves. -/
def DecPost (bs : List UInt8) (w : World) (e : Ending) (w' : World) : Prop :=
  (decErr bs ≠ 0 ∧ e = .returned (NoSeg (decErr bs)) ∧ Ext w w') ∨
  (decErr bs = 0 ∧ ∃ A' c', e = .returned (.tuple #[.agg #[.int .u32 (word bs 0 : Nat), .int .u32 (word bs 4 : Nat), .int .i64 ((bs.getD 8 0).toNat : Int), .int .i64 ((bs.getD 9 0).toNat : Int), .slice A' (bs.length - 14) c'], .int .i64 0]) ∧
    w'.ownsRow w.heap.size 5 1 (.slice A' (bs.length - 14) c') (bs.length - 14) (bytesV (bs.drop 14)) ∧ Ext w w')

theorem word_drop (bs : List UInt8) : word (bs.drop 4) 0 = word bs 4 := by simp [word]

theorem plain_cells (bs : List UInt8) : ((bytesV bs).set 12 (.int .u8 0)).set 13 (.int .u8 0) = bytesV (plainB bs) := by
  simp [bytesV, plainB, List.map_set]

theorem errs (bs : List UInt8) (n : Nat) (hn : bs.length = n) (h14 : 14 ≤ n) (h10 : n = 14 + (bs.getD 10 0).toNat) (h11 : bs.getD 11 0 = 0) :
    decErr bs = if bs.getD 12 0 ≠ hi (plainB bs) ∨ bs.getD 13 0 ≠ lo (plainB bs) then 20 else if 15 < (bs.getD 8 0).toNat then 1 else if 32 < n - 14 then 2 else 0 := by
  unfold decErr
  rw [if_neg (by omega), if_neg (by rw [h11]; simp only [ne_eq, not_true_eq_false, or_false]; omega), hn]
theorem e12_of (bs : List UInt8) (n : Nat) (hn : bs.length = n) : bs.getD 12 0 = hi (plainB bs) ↔ (bs.getD 12 0).toNat = (65535 - sumTo (plainB bs) n) / 256 := by
  have hl : (plainB bs).length = n := by simp [plainB, hn]
  rw [hi, hl, ← UInt8.toNat_inj]
  simp
  omega
theorem e13_of (bs : List UInt8) (n : Nat) (hn : bs.length = n) : bs.getD 13 0 = lo (plainB bs) ↔ (bs.getD 13 0).toNat = (65535 - sumTo (plainB bs) n) % 256 := by
  have hl : (plainB bs).length = n := by simp [plainB, hn]
  rw [lo, hl, ← UInt8.toNat_inj]
  simp

theorem wrap_byte (b : UInt8) : IntKind.i64.wrap (b.toNat : Int) = (b.toNat : Int) := by
  have := b.toNat_lt
  rw [IntKind.wrap_i64]
  omega
/-- The ways through the region that makes the segment meet. -/
def Made (W : World) (v0 v1 v2 v3 : Value) (n : Nat) (xs : List Value) (p : Value) (w' : World) : Prop :=
  ∃ (g6 : Nat) (A' : Option Addr) (c' : Nat), p = .pointer (some ⟨g6, 0, none⟩) ∧ W.heap.size ≤ g6 ∧ Blk w' g6 60 #[v0, v1, v2, v3, .slice A' n c'] ∧ w'.ownsRow W.heap.size 5 1 (.slice A' n c') n xs ∧ Ext W w'
theorem made1 {w6 W : World} {g base n c : Nat} {A : Option Addr} {xs : List Value} {a0 a1 a2 a3 a4 : Value} (hz : Blk w6 g 60 #[a0, a1, a2, a3, a4]) (hx : Ext W w6) (hg : W.heap.size ≤ g) (ho : w6.ownsRow base 5 1 (.slice A n c) n xs) (hb : W.heap.size ≤ base) (v0 v1 v2 v3 : Value) :
    Made W v0 v1 v2 v3 n xs (.pointer (some ⟨g, 0, none⟩)) (((((w6.setCell ⟨g, 0, none⟩ v0).setCell ⟨g, 1, none⟩ v1).setCell ⟨g, 2, none⟩ v2).setCell ⟨g, 3, none⟩ v3).setCell ⟨g, 4, none⟩ (.slice A n c)) := by
  have hne := own_blk_ne ho hz (by decide)
  exact ⟨g, A, c, rfl, hg, hz.five _ _ _ _ _, own_mono (own_far (own_far (own_far (own_far (own_far ho (p := ⟨g, 0, none⟩) hne _) (p := ⟨g, 1, none⟩) hne _) (p := ⟨g, 2, none⟩) hne _) (p := ⟨g, 3, none⟩) hne _) (p := ⟨g, 4, none⟩) hne _) hb,
    ((((hx.setCell (p := ⟨g, 0, none⟩) hg _).setCell (p := ⟨g, 1, none⟩) hg _).setCell (p := ⟨g, 2, none⟩) hg _).setCell (p := ⟨g, 3, none⟩) hg _).setCell (p := ⟨g, 4, none⟩) hg _⟩
theorem made2 {w6 W : World} {base n c : Nat} {A : Option Addr} {xs : List Value} (hx : Ext W w6) (ho : w6.ownsRow base 5 1 (.slice A n c) n xs) (hb : W.heap.size ≤ base) (v0 v1 v2 v3 : Value) :
    Made W v0 v1 v2 v3 n xs (.pointer (some ⟨w6.heap.size, 0, none⟩)) (w6.alloc (.cells #[v0, v1, v2, v3, .slice A n c] 60)) :=
  ⟨_, A, c, rfl, hx.size, Blk.new _ _ _, own_mono (((Ext.refl w6).alloc _).own ho) hb, hx.alloc _⟩

set_option maxHeartbeats 2000000 in
set_option maxRecDepth 100000 in
theorem decode_rest (bs : List UInt8) (A : Option Addr) (n c B : Nat) (w : World) (hr : Reads w B 1 A n (bytesV bs)) (hB : B ≤ w.heap.size) (hnc : n ≤ c) (hc : c ≤ maxLen) (hn : bs.length = n) (h14 : 14 ≤ n) (h : n = 14 + (bs.getD 10 0).toNat) (h' : bs.getD 11 0 = 0) :
    Calls Try.prog 28 #[.slice A n c] w (DecPost bs w) := by
  have hcm := hc
  obtain ⟨i0, hi0, hz0, hz1, hz2⟩ := info_parts u8_info
  unfold maxLen at hc
  obtain ⟨b, off, rfl, hb, hcell0⟩ := hr.at1 (by omega)
  clear hcell0
  have k10 := cells_of hr 10 (by omega)
  have k11 := cells_of hr 11 (by omega)
  rw [h'] at k11
  have HR := hide hr
  have HN := hide hn
  have H' := hide h'
  have l10 := (bs.getD 10 0).toNat_lt
  generalize hx10 : (bs.getD 10 0).toNat = x10 at *
  have HX := hide hx10
  have H10 := hide h
  have n1 : ¬ n < 14 + x10 := by omega
  have n2 : ¬ 14 + x10 < n := by omega
  clear hr hn h' h hx10
  have hlt : b < w.heap.size := by omega
  have hal := alloc_old w
  have zz : ((UInt8.toNat 0 : Nat) : Int) = 0 := rfl
  rw [zz] at k11
  clear zz
  go_enter Try.func28, Try.ntmps28
  go_wp2_with fail
  refine (bclone_any _ _ _ B (bytesV bs) _ (HR.out.alloc hB _) (bytesV_one _) (by simp; omega) (by have := H10.out; omega) (by simp)).mono ?_
  rintro e w1 ⟨A1, c1, rfl, ho1, hx1⟩
  obtain ⟨g, rfl, hg1, hg2, hg3, hg4⟩ := own_addr ho1 (by omega)
  have q12 := cells_of (Reads.of_own ho1) 12 (by omega)
  have q13 := cells_of (Reads.of_own ho1) 13 (by omega)
  simp only [Nat.zero_add] at q12 q13
  have f12 := ho1.frozenAt 12
  have f13 := ho1.frozenAt 13
  have i12 : (12 : Int) < (n : Int) := by omega
  have i13 : (13 : Int) < (n : Int) := by omega
  clear hal
  go_wp2_with fail
  have ho3 := ((ho1.stored 12 (.int .u8 0)).1.stored 13 (.int .u8 0)).1
  rw [plain_cells] at ho3
  have hx3 := ((hx1.setCell (p := ⟨g, 12, none⟩) hg1 (.int .u8 0)).setCell (p := ⟨g, 13, none⟩) hg1 (.int .u8 0))
  refine (sum_any _ _ _ _ _ _ (Reads.of_own ho3) hg4 hg3).mono ?_
  rintro e w' ⟨rfl, rfl⟩
  generalize (w1.setCell ⟨g, 12, none⟩ (.int .u8 0)).setCell ⟨g, 13, none⟩ (.int .u8 0) = W3 at *
  clear q12 q13 f12 f13 ho1 hx1 ho3 hg1 hg2 hg3 hg4 k10 k11
  have HR3 := hide (hx3.reads (HR.out.alloc hB _) (by simp; omega))
  have hbz := Blk.ext (Blk.new w 60 #[Value.int IntKind.u32 0, Value.int IntKind.u32 0, Value.int IntKind.i64 0, Value.int IntKind.i64 0, Value.slice none 0 0]) hx3
  have z0 := hbz.cell 0
  have z1 := hbz.cell 1
  have z2 := hbz.cell 2
  have z3 := hbz.cell 3
  have z4 := hbz.cell 4
  have y0 := hbz.frozen 0
  have y1 := hbz.frozen 1
  have y2 := hbz.frozen 2
  have y3 := hbz.frozen 3
  have y4 := hbz.frozen 4
  simp at z0 z1 z2 z3 z4
  have k12 := cells_of HR3.out 12 (by omega)
  have k13 := cells_of HR3.out 13 (by omega)
  have hs := sumTo_le (plainB bs) n
  have l12 := (bs.getD 12 0).toNat_lt
  have l13 := (bs.getD 13 0).toNat_lt
  have hxw : Ext w W3 := ((Ext.refl w).alloc _).trans hx3
  have E12 : Hid (bs.getD 12 0 = hi (plainB bs) ↔ (bs.getD 12 0).toNat = (65535 - sumTo (plainB bs) n) / 256) := e12_of bs n HN.out
  have E13 : Hid (bs.getD 13 0 = lo (plainB bs) ↔ (bs.getD 13 0).toNat = (65535 - sumTo (plainB bs) n) % 256) := e13_of bs n HN.out
  generalize hx12 : (bs.getD 12 0).toNat = x12 at *
  generalize hx13 : (bs.getD 13 0).toNat = x13 at *
  generalize hxs : 65535 - sumTo (plainB bs) n = sm at *
  have hsm : sm ≤ 65535 := by omega
  clear hxs hs hx12 hx13
  have HE := hide (errs bs n HN.out h14 (by rw [HX.out]; exact H10.out) H'.out)
  by_cases c12 : x12 = sm / 256
  · have t12 : (((x12 : Nat) : Int) != (sm : Int) / 256) = false := by rw [bne_eq_false_iff_eq]; omega
    have C12 := hide c12
    clear c12
    by_cases c13 : x13 = sm % 256
    · have t13 : (((x13 : Nat) : Int) != (sm : Int) % 256) = false := by rw [bne_eq_false_iff_eq]; omega
      have C13 := hide c13
      clear c13
      have k8 := cells_of HR3.out 8 (by omega)
      have k9 := cells_of HR3.out 9 (by omega)
      have b8 := (bs.getD 8 0).toNat_lt
      have b9 := (bs.getD 9 0).toNat_lt
      have i8 : (8 : Int) < (n : Int) := by omega
      have i9 : (9 : Int) < (n : Int) := by omega
      obtain ⟨A4, s4, r4, _⟩ := cut_from (P := Try.prog) Try.underlying24 hi0 hz1 HR3.out 4 c (by omega) hnc .i64
      obtain ⟨A14, s14, r14, m14⟩ := cut_from (P := Try.prog) Try.underlying24 hi0 hz1 HR3.out 14 c (by omega) hnc .i64
      rw [bytesV_drop] at r4 r14
      have S4 : ∀ W, (Instr.slice 24 (.slice (some ⟨b, off, none⟩) n c) (some (.int .i64 4)) none none).run Try.prog W = .ok (.slice A4 (n - 4) (c - 4)) W := s4
      have S14 : ∀ W, (Instr.slice 24 (.slice (some ⟨b, off, none⟩) n c) (some (.int .i64 14)) none none).run Try.prog W = .ok (.slice A14 (n - 14) (c - 14)) W := s14
      clear s4 s14
      have HR4 := hide r4
      have HR14 := hide r14
      have HM14 := hide m14
      clear r4 r14 m14
      have hBW : B ≤ W3.heap.size := Nat.le_trans hB hxw.size
      go_upto_region 10 with fail
      go_cut [6] (fun s6 wx => Made W3 (.int .u32 (word bs 0 : Nat)) (.int .u32 (word (bs.drop 4) 0 : Nat)) (.int .i64 (IntKind.i64.wrap ((bs[8]?.getD 0).toNat : Int))) (.int .i64 (IntKind.i64.wrap ((bs[9]?.getD 0).toNat : Int))) (n - 14) (bytesV (bs.drop 14)) s6 wx)
      case first =>
        go_region_held3 (fun w' => w'.cell? ⟨b, off + 8, none⟩ = some (.int .u8 ((bs.getD 8 0).toNat : Int)) ∧ w'.cell? ⟨b, off + 9, none⟩ = some (.int .u8 ((bs.getD 9 0).toNat : Int)))
          (first | (refine ⟨?_, ?_⟩ <;> (refine Ext.cell (w := W3) ?_ (by assumption); ((repeat (first | with_reducible exact Ext.refl _ | with_reducible assumption | with_reducible refine Ext.alloc ?_ _ | with_reducible refine Ext.drew ?_ | with_reducible refine Ext.drewN ?_ _ | with_reducible refine Ext.setCell ?_ (by first | exact Nat.le_refl _ | assumption | (simp; done) | omega) _ | with_reducible refine Ext.trans ?_ (by with_reducible assumption))); done))) | fail)
          (first
            | (go_at_call_of 39 (Value.slice (some ⟨b, off, none⟩) n c); refine (word_r _ n c B bs _ (Ext.reads (w := W3) (by ((repeat (first | with_reducible exact Ext.refl _ | with_reducible assumption | with_reducible refine Ext.alloc ?_ _ | with_reducible refine Ext.drew ?_ | with_reducible refine Ext.drewN ?_ _ | with_reducible refine Ext.setCell ?_ (by first | exact Nat.le_refl _ | assumption | (simp; done) | omega) _ | with_reducible refine Ext.trans ?_ (by with_reducible assumption))); done)) HR3.out hBW) (by omega) hnc).mono ?_; rintro e w' ⟨rfl, q1, rfl⟩)
            | (go_at_call 39; refine (word_r A4 (n - 4) (c - 4) B (bs.drop 4) _ (Ext.reads (w := W3) (by ((repeat (first | with_reducible exact Ext.refl _ | with_reducible assumption | with_reducible refine Ext.alloc ?_ _ | with_reducible refine Ext.drew ?_ | with_reducible refine Ext.drewN ?_ _ | with_reducible refine Ext.setCell ?_ (by first | exact Nat.le_refl _ | assumption | (simp; done) | omega) _ | with_reducible refine Ext.trans ?_ (by with_reducible assumption))); done)) HR4.out hBW) (by omega) (by omega)).mono ?_; rintro e w' ⟨rfl, q2, rfl⟩)
            | (go_at_call 37; refine (bclone_any A14 (n - 14) (c - 14) B (bytesV (bs.drop 14)) _ (Ext.reads (w := W3) (by ((repeat (first | with_reducible exact Ext.refl _ | with_reducible assumption | with_reducible refine Ext.alloc ?_ _ | with_reducible refine Ext.drew ?_ | with_reducible refine Ext.drewN ?_ _ | with_reducible refine Ext.setCell ?_ (by first | exact Nat.le_refl _ | assumption | (simp; done) | omega) _ | with_reducible refine Ext.trans ?_ (by with_reducible assumption))); done)) HR14.out hBW) (bytesV_one _) (Nat.le_trans hBW (Ext.size (w := W3) (by ((repeat (first | with_reducible exact Ext.refl _ | with_reducible assumption | with_reducible refine Ext.alloc ?_ _ | with_reducible refine Ext.drew ?_ | with_reducible refine Ext.drewN ?_ _ | with_reducible refine Ext.setCell ?_ (by first | exact Nat.le_refl _ | assumption | (simp; done) | omega) _ | with_reducible refine Ext.trans ?_ (by with_reducible assumption))); done)))) (by omega) (fun h => by have := HM14.out h; cases this)).mono ?_; rintro e w6 ⟨A6, c6, rfl, ho6, hx6⟩; try (have hz6 := ext_blk hx6 (Blk.new W3 60 #[.int .u32 0, .int .u32 0, .int .i64 0, .int .i64 0, .slice none 0 0]); have p0 : w6.cell? ⟨W3.heap.size, 0, none⟩ = some (.int .u32 0) := hz6.cell 0; have p1 : w6.cell? ⟨W3.heap.size, 1, none⟩ = some (.int .u32 0) := hz6.cell 1; have p2 : w6.cell? ⟨W3.heap.size, 2, none⟩ = some (.int .i64 0) := hz6.cell 2; have p3 : w6.cell? ⟨W3.heap.size, 3, none⟩ = some (.int .i64 0) := hz6.cell 3; have p4 : w6.cell? ⟨W3.heap.size, 4, none⟩ = some (.slice none 0 0) := hz6.cell 4; have p5 := hz6.frozen 0; have p6 := hz6.frozen 1; have p7 := hz6.frozen 2; have p8 := hz6.frozen 3; have p9 := hz6.frozen 4))
            | fail)
        all_goals go_wp2_with fail
        all_goals go_meet
        all_goals (first | exact made1 hz6 (by ((repeat (first | with_reducible exact Ext.refl _ | with_reducible assumption | with_reducible refine Ext.alloc ?_ _ | with_reducible refine Ext.drew ?_ | with_reducible refine Ext.drewN ?_ _ | with_reducible refine Ext.setCell ?_ (by first | exact Nat.le_refl _ | assumption | (simp; done) | omega) _ | with_reducible refine Ext.trans ?_ (by with_reducible assumption))); done)) (Nat.le_refl _) ho6 (Ext.size (by ((repeat (first | with_reducible exact Ext.refl _ | with_reducible assumption | with_reducible refine Ext.alloc ?_ _ | with_reducible refine Ext.drew ?_ | with_reducible refine Ext.drewN ?_ _ | with_reducible refine Ext.setCell ?_ (by first | exact Nat.le_refl _ | assumption | (simp; done) | omega) _ | with_reducible refine Ext.trans ?_ (by with_reducible assumption))); done))) _ _ _ _ | exact made2 (by ((repeat (first | with_reducible exact Ext.refl _ | with_reducible assumption | with_reducible refine Ext.alloc ?_ _ | with_reducible refine Ext.drew ?_ | with_reducible refine Ext.drewN ?_ _ | with_reducible refine Ext.setCell ?_ (by first | exact Nat.le_refl _ | assumption | (simp; done) | omega) _ | with_reducible refine Ext.trans ?_ (by with_reducible assumption))); done)) ho6 (Ext.size (by ((repeat (first | with_reducible exact Ext.refl _ | with_reducible assumption | with_reducible refine Ext.alloc ?_ _ | with_reducible refine Ext.drew ?_ | with_reducible refine Ext.drewN ?_ _ | with_reducible refine Ext.setCell ?_ (by first | exact Nat.le_refl _ | assumption | (simp; done) | omega) _ | with_reducible refine Ext.trans ?_ (by with_reducible assumption))); done))) _ _ _ _)
      case rest =>
        obtain ⟨g6, A6, c6, rfl, hg6, hb6, ho6, hx6⟩ := hcut
        rw [← List.getD_eq_getElem?_getD, ← List.getD_eq_getElem?_getD, wrap_byte, wrap_byte, word_drop] at hb6
        have HNE : Hid (¬ (bs.getD 12 0 ≠ hi (plainB bs) ∨ bs.getD 13 0 ≠ lo (plainB bs))) := fun h => h.elim (fun h => h (E12.out.2 C12.out)) (fun h => h (E13.out.2 C13.out))
        clear k8 k9 b9
        generalize hx8 : (bs.getD 8 0).toNat = x8 at *
        generalize hx9 : (bs.getD 9 0).toNat = x9 at *
        have HX8 := hide hx8
        have HX9 := hide hx9
        have l9 : x9 ≤ 255 := by rw [← hx9]; have := (bs.getD 9 0).toNat_lt; omega
        have m0 : wc.cell? ⟨g6, 0, none⟩ = some (.int .u32 (word bs 0 : Nat)) := hb6.cell 0
        have m1 : wc.cell? ⟨g6, 1, none⟩ = some (.int .u32 (word bs 4 : Nat)) := hb6.cell 1
        have m2 : wc.cell? ⟨g6, 2, none⟩ = some (.int .i64 (x8 : Int)) := hb6.cell 2
        have m3 : wc.cell? ⟨g6, 3, none⟩ = some (.int .i64 (x9 : Int)) := hb6.cell 3
        have m4 : wc.cell? ⟨g6, 4, none⟩ = some (.slice A6 (n - 14) c6) := hb6.cell 4
        clear S4 S14 HR4 HR14 HM14 k12 k13 hx8 hx9
        by_cases c8 : 15 < x8
        · go_wp2_with fail
          refine (check_arg _ _ _ _ _ _ _ _ (by omega)).mono ?_
          rintro e w' ⟨rfl, rfl⟩
          have hx7 : Ext W3 (wc.alloc (Obj.cells #[.int .u32 (word bs 0 : Nat), .int .u32 (word bs 4 : Nat), .int .i64 (x8 : Int), .int .i64 (x9 : Int), .slice A6 (n - 14) c6] 60)) := hx6.alloc _
          generalize wc.alloc (Obj.cells #[.int .u32 (word bs 0 : Nat), .int .u32 (word bs 4 : Nat), .int .i64 (x8 : Int), .int .i64 (x9 : Int), .slice A6 (n - 14) c6] 60) = W7 at *
          replace y0 := (hx7.frozen z0).trans y0
          replace y1 := (hx7.frozen z1).trans y1
          replace y2 := (hx7.frozen z2).trans y2
          replace y3 := (hx7.frozen z3).trans y3
          replace y4 := (hx7.frozen z4).trans y4
          replace z0 := hx7.cell z0
          replace z1 := hx7.cell z1
          replace z2 := hx7.cell z2
          replace z3 := hx7.cell z3
          replace z4 := hx7.cell z4
          go_wp2_with fail
          exact bodyPost_ret (v := NoSeg 1) (by simp [results, Try.results28, go_sem, NoSeg, z0, z1, z2, z3, z4]) rfl (.inl (by rw [HE.out, if_neg HNE.out, if_pos c8]; exact ⟨by decide, rfl, by ((repeat (first | with_reducible exact Ext.refl _ | with_reducible assumption | with_reducible refine Ext.alloc ?_ _ | with_reducible refine Ext.drew ?_ | with_reducible refine Ext.drewN ?_ _ | with_reducible refine Ext.setCell ?_ (by first | exact Nat.le_refl _ | assumption | (simp; done) | omega) _ | with_reducible refine Ext.trans ?_ (by with_reducible assumption))); done)⟩))
        · by_cases c32 : 32 < n - 14
          · go_wp2_with fail
            refine (check_large _ _ _ _ _ _ _ _ (by omega) (by omega) (by omega) (by omega) c32).mono ?_
            rintro e w' ⟨rfl, rfl⟩
            have hx7 : Ext W3 (wc.alloc (Obj.cells #[.int .u32 (word bs 0 : Nat), .int .u32 (word bs 4 : Nat), .int .i64 (x8 : Int), .int .i64 (x9 : Int), .slice A6 (n - 14) c6] 60)) := hx6.alloc _
            generalize wc.alloc (Obj.cells #[.int .u32 (word bs 0 : Nat), .int .u32 (word bs 4 : Nat), .int .i64 (x8 : Int), .int .i64 (x9 : Int), .slice A6 (n - 14) c6] 60) = W7 at *
            replace y0 := (hx7.frozen z0).trans y0
            replace y1 := (hx7.frozen z1).trans y1
            replace y2 := (hx7.frozen z2).trans y2
            replace y3 := (hx7.frozen z3).trans y3
            replace y4 := (hx7.frozen z4).trans y4
            replace z0 := hx7.cell z0
            replace z1 := hx7.cell z1
            replace z2 := hx7.cell z2
            replace z3 := hx7.cell z3
            replace z4 := hx7.cell z4
            go_wp2_with fail
            exact bodyPost_ret (v := NoSeg 2) (by simp [results, Try.results28, go_sem, NoSeg, z0, z1, z2, z3, z4]) rfl (.inl (by rw [HE.out, if_neg HNE.out, if_neg c8, if_pos c32]; exact ⟨by decide, rfl, by ((repeat (first | with_reducible exact Ext.refl _ | with_reducible assumption | with_reducible refine Ext.alloc ?_ _ | with_reducible refine Ext.drew ?_ | with_reducible refine Ext.drewN ?_ _ | with_reducible refine Ext.setCell ?_ (by first | exact Nat.le_refl _ | assumption | (simp; done) | omega) _ | with_reducible refine Ext.trans ?_ (by with_reducible assumption))); done)⟩))
          · go_wp2_with fail
            refine (check_ok _ _ _ _ _ _ _ _ (by omega) (by omega) (by omega) (by omega) (by omega)).mono ?_
            rintro e w' ⟨rfl, rfl⟩
            have hx6' : Ext wc (wc.alloc (Obj.cells #[.int .u32 (word bs 0 : Nat), .int .u32 (word bs 4 : Nat), .int .i64 (x8 : Int), .int .i64 (x9 : Int), .slice A6 (n - 14) c6] 60)) := (Ext.refl _).alloc _
            generalize wc.alloc (Obj.cells #[.int .u32 (word bs 0 : Nat), .int .u32 (word bs 4 : Nat), .int .i64 (x8 : Int), .int .i64 (x9 : Int), .slice A6 (n - 14) c6] 60) = W7 at *
            have hx7 : Ext W3 W7 := hx6.trans hx6'
            replace y0 := (hx7.frozen z0).trans y0
            replace y1 := (hx7.frozen z1).trans y1
            replace y2 := (hx7.frozen z2).trans y2
            replace y3 := (hx7.frozen z3).trans y3
            replace y4 := (hx7.frozen z4).trans y4
            replace z0 := hx7.cell z0
            replace z1 := hx7.cell z1
            replace z2 := hx7.cell z2
            replace z3 := hx7.cell z3
            replace z4 := hx7.cell z4
            replace m0 := hx6'.cell m0
            replace m1 := hx6'.cell m1
            replace m2 := hx6'.cell m2
            replace m3 := hx6'.cell m3
            replace m4 := hx6'.cell m4
            replace hbz := hbz.ext hx7
            go_wp2_with fail
            have hoe := hx6'.own ho6
            have hne := own_blk_ne hoe hbz (by decide)
            refine bodyPost_ret (v := .tuple #[.agg #[.int .u32 (word bs 0 : Nat), .int .u32 (word bs 4 : Nat), .int .i64 (x8 : Int), .int .i64 (x9 : Int), .slice A6 (n - 14) c6], .int .i64 0]) (by simp [results, Try.results28, go_sem, z0, z1, z2, z3, z4]) rfl (.inr ?_)
            rw [HE.out, if_neg HNE.out, if_neg c8, if_neg c32, HN.out, HX8.out, HX9.out]
            exact ⟨rfl, A6, c6, rfl, own_mono (own_far (own_far (own_far (own_far (own_far hoe (p := ⟨w.heap.size, 0, none⟩) hne _) (p := ⟨w.heap.size, 1, none⟩) hne _) (p := ⟨w.heap.size, 2, none⟩) hne _) (p := ⟨w.heap.size, 3, none⟩) hne _) (p := ⟨w.heap.size, 4, none⟩) hne _) hxw.size, by ((repeat (first | with_reducible exact Ext.refl _ | with_reducible assumption | with_reducible refine Ext.alloc ?_ _ | with_reducible refine Ext.drew ?_ | with_reducible refine Ext.drewN ?_ _ | with_reducible refine Ext.setCell ?_ (by first | exact Nat.le_refl _ | assumption | (simp; done) | omega) _ | with_reducible refine Ext.trans ?_ (by with_reducible assumption))); done)⟩
    · have t13 : (((x13 : Nat) : Int) != (sm : Int) % 256) = true := by rw [bne_iff_ne]; omega
      have C13 := hide c13
      clear c13
      go_wp2_with fail
      exact bodyPost_ret (v := NoSeg 20) (by simp [results, Try.results28, go_sem, NoSeg, z0, z1, z2, z3, z4]) rfl (.inl (by rw [HE.out, if_pos (.inr (fun e => C13.out (E13.out.1 e)))]; exact ⟨by decide, rfl, by ((repeat (first | with_reducible exact Ext.refl _ | with_reducible assumption | with_reducible refine Ext.alloc ?_ _ | with_reducible refine Ext.drew ?_ | with_reducible refine Ext.drewN ?_ _ | with_reducible refine Ext.setCell ?_ (by first | exact Nat.le_refl _ | assumption | (simp; done) | omega) _ | with_reducible refine Ext.trans ?_ (by with_reducible assumption))); done)⟩))
  · have t12 : (((x12 : Nat) : Int) != (sm : Int) / 256) = true := by rw [bne_iff_ne]; omega
    have C12 := hide c12
    clear c12
    go_wp2_with fail
    exact bodyPost_ret (v := NoSeg 20) (by simp [results, Try.results28, go_sem, NoSeg, z0, z1, z2, z3, z4]) rfl (.inl (by rw [HE.out, if_pos (.inl (fun e => C12.out (E12.out.1 e)))]; exact ⟨by decide, rfl, by ((repeat (first | with_reducible exact Ext.refl _ | with_reducible assumption | with_reducible refine Ext.alloc ?_ _ | with_reducible refine Ext.drew ?_ | with_reducible refine Ext.drewN ?_ _ | with_reducible refine Ext.setCell ?_ (by first | exact Nat.le_refl _ | assumption | (simp; done) | omega) _ | with_reducible refine Ext.trans ?_ (by with_reducible assumption))); done)⟩))
end Go.Proofs.Ytacfffegmmdgfaa.Sg
