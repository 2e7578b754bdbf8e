/- Contracts of seg.Encode and seg.Decode. -/
import Derived.Test.YtacfffegmmdgfaaSgLeaf
import Derived.Deep.RegionHeld3
import Derived.Deep.DeepCutAuto
import Derived.Deep.DeepFit
namespace Go.Proofs.Ytacfffegmmdgfaa.Sg
open Go.RowKit
set_option linter.unusedVariables false

theorem four_ext (n : Nat) (w : World) (hn : n ≤ 4294967295) :
    Calls Try.prog 35 #[.int .u32 n] w fun e w' => ∃ A, e = .returned (.slice (some A) 4 4) ∧ w'.ownsRow w.heap.size 5 1 (.slice (some A) 4 4) 4 (bytesV (four n)) ∧ Ext w w' :=
  (four_any n w hn).mono fun e w' ⟨he, hw⟩ => ⟨_, he, by
    rw [← hw]
    exact own_lit w _ _ 4 _ (Nat.le_refl _) (by decide) (by simp [bytesV, four]), by
    rw [← hw]; exact (Ext.refl w).alloc _⟩

/-- The six bytes behind the two words. -/
abbrev sixV (f g n : Nat) : Array Value := #[.int .u8 (IntKind.u8.wrap (f : Int)), .int .u8 (IntKind.u8.wrap (g : Int)), .int .u8 (IntKind.u8.wrap (n : Int)), .int .u8 0, .int .u8 0, .int .u8 0]
theorem sixV_eq (f g n : Nat) : [Value.int .u8 (IntKind.u8.wrap (f : Int)), .int .u8 (IntKind.u8.wrap (g : Int)), .int .u8 (IntKind.u8.wrap (n : Int)), .int .u8 0, .int .u8 0, .int .u8 0] = bytesV [UInt8.ofNat f, UInt8.ofNat g, UInt8.ofNat n, 0, 0, 0] := by
  simp [bytesV, IntKind.wrap_u8]

theorem enc_cells (s : SegD) (m : Nat) (hm : (raw s).length = m) : ((bytesV (raw s)).set 12 (.int .u8 (((65535 - sumTo (raw s) m : Nat) : Int) / 256))).set 13 (.int .u8 (((65535 - sumTo (raw s) m : Nat) : Int) % 256)) = bytesV (enc s) := by
  subst hm
  have h := sumTo_le (raw s) (raw s).length
  simp only [bytesV, enc, List.map_set, hi, lo]
  congr 2
  · congr 2
    simp
    omega
set_option maxHeartbeats 1000000 in
set_option maxRecDepth 100000 in
theorem encode_any (s : SegD) (ok : s.Ok) (A : Option Addr) (n c B : Nat) (w : World) (hr : Reads w B 1 A n (bytesV s.data)) (hB : B ≤ w.heap.size) (hn : s.data.length = n) :
    Calls Try.prog 24 #[.agg #[.int .u32 s.seq, .int .u32 s.ack, .int .i64 s.fl, .int .i64 s.wn, .slice A n c]] w fun e w' =>
      ∃ A' c', e = .returned (.tuple #[.slice A' (14 + n) c', .int .i64 0]) ∧ w'.ownsRow w.heap.size 5 1 (.slice A' (14 + n) c') (14 + n) (bytesV (enc s)) ∧ Ext w w' := by
  obtain ⟨i0, hi0, hz0, hz1, hz2⟩ := info_parts u8_info
  obtain ⟨oq, oa, of, ow, od⟩ := ok
  have hn32 : n ≤ 32 := by omega
  have HR := hide hr
  have HN := hide hn
  clear hr hn od
  go_enter Try.func24, Try.ntmps24
  go_wp2_with fail
  refine (check_ok _ _ _ _ _ _ _ _ (by omega) (by omega) (by omega) (by omega) (by omega)).mono ?_
  rintro e w1 ⟨rfl, rfl⟩
  go_upto_region 4 with fail
  obtain ⟨W, hW⟩ : ∃ W, W = (w.alloc (Obj.cells #[Value.int IntKind.u32 s.seq, Value.int IntKind.u32 s.ack, Value.int IntKind.i64 s.fl, Value.int IntKind.i64 s.wn, Value.slice A n c] 60)).alloc (Obj.cells #[Value.int IntKind.u32 s.seq, Value.int IntKind.u32 s.ack, Value.int IntKind.i64 s.fl, Value.int IntKind.i64 s.wn, Value.slice A n c] 60) := ⟨_, rfl⟩
  rw [← hW]
  have hx : Ext w W := by rw [hW]; exact ((Ext.refl w).alloc _).alloc _
  have hbx : Blk W w.heap.size 60 #[Value.int IntKind.u32 s.seq, Value.int IntKind.u32 s.ack, Value.int IntKind.i64 s.fl, Value.int IntKind.i64 s.wn, Value.slice A n c] := by rw [hW]; exact (Blk.new _ _ _).alloc _
  clear hW
  have k0 : W.cell? ⟨w.heap.size, 0, none⟩ = some (.int .u32 s.seq) := hbx.cell 0
  have k1 : W.cell? ⟨w.heap.size, 1, none⟩ = some (.int .u32 s.ack) := hbx.cell 1
  have k2 : W.cell? ⟨w.heap.size, 2, none⟩ = some (.int .i64 s.fl) := hbx.cell 2
  have k3 : W.cell? ⟨w.heap.size, 3, none⟩ = some (.int .i64 s.wn) := hbx.cell 3
  have k4 : W.cell? ⟨w.heap.size, 4, none⟩ = some (.slice A n c) := hbx.cell 4
  go_cut [5] (fun s5 wx => ∃ A' c', s5 = .slice A' 14 c' ∧ wx.ownsRow W.heap.size 5 1 (.slice A' 14 c') 14 (bytesV (four s.seq ++ four s.ack ++ [UInt8.ofNat s.fl, UInt8.ofNat s.wn, UInt8.ofNat n, 0, 0, 0])) ∧ Ext W wx)
  case first =>
    go_region_held3 (fun w' => w'.cell? ⟨w.heap.size, 0, none⟩ = some (.int .u32 s.seq) ∧ w'.cell? ⟨w.heap.size, 1, none⟩ = some (.int .u32 s.ack) ∧ w'.cell? ⟨w.heap.size, 2, none⟩ = some (.int .i64 s.fl) ∧ w'.cell? ⟨w.heap.size, 3, none⟩ = some (.int .i64 s.wn) ∧ w'.cell? ⟨w.heap.size, 4, none⟩ = some (.slice A n c))
      (first | go_keep | (refine ⟨?_, ?_, ?_, ?_, ?_⟩ <;> (refine Ext.cell (w := W) ?_ (by assumption); ((repeat (first | with_reducible exact Ext.refl _ | with_reducible assumption | with_reducible refine Ext.alloc ?_ _ | with_reducible refine Ext.drew ?_ | with_reducible refine Ext.drewN ?_ _ | with_reducible refine Ext.setCell ?_ (by first | exact Nat.le_refl _ | assumption | (simp; done) | omega) _ | with_reducible refine Ext.trans ?_ (by with_reducible assumption))); done))))
      (first
        | (go_at_call_of 35 (Value.int .u32 s.seq); refine (four_ext _ _ (by omega)).mono ?_; rintro e w1 ⟨A1, rfl, ho1, hx1⟩)
        | (go_at_call_of 35 (Value.int .u32 s.ack); refine (four_ext _ _ (by omega)).mono ?_; rintro e w2 ⟨A2, rfl, ho2, hx2⟩)
        | (refine step_append_new _ (by rfl) (.tmp 14) (.tmp 17) 24 (by rfl) 5 i0 _ 1 1 Try.underlying24 hi0 hz0 hz1 hz2 rfl (by omega) _ (some A1) 4 4 (bytesV (four s.seq)) (by rfl) (by simp) (Reads.of_own (Ext.own (w := w1) (by ((repeat (first | with_reducible exact Ext.refl _ | with_reducible assumption | with_reducible refine Ext.alloc ?_ _ | with_reducible refine Ext.drew ?_ | with_reducible refine Ext.drewN ?_ _ | with_reducible refine Ext.setCell ?_ (by first | exact Nat.le_refl _ | assumption | (simp; done) | omega) _ | with_reducible refine Ext.trans ?_ (by with_reducible assumption))); done)) ho1)) _ (some A2) 4 4 (bytesV (four s.ack)) (by rfl) (Reads.of_own (Ext.own (w := w2) (by ((repeat (first | with_reducible exact Ext.refl _ | with_reducible assumption | with_reducible refine Ext.alloc ?_ _ | with_reducible refine Ext.drew ?_ | with_reducible refine Ext.drewN ?_ _ | with_reducible refine Ext.setCell ?_ (by first | exact Nat.le_refl _ | assumption | (simp; done) | omega) _ | with_reducible refine Ext.trans ?_ (by with_reducible assumption))); done)) ho2)) (bytesV_one _) (by omega) (by omega) (by simp only [maxLen]; omega) (by omega) ?_; intro A3 c3 w3 ho3 hx3)
        | (refine step_append_any _ (by rfl) (.tmp 18) (.tmp 29) 24 (by rfl) W.heap.size 5 i0 _ 1 1 Try.underlying24 hi0 hz0 hz1 hz2 rfl (by omega) (.slice A3 (4 + 4) c3) 8 (bytesV (four s.seq) ++ bytesV (four s.ack)) (by rfl) (own_mono (Ext.own (w := w3) (by ((repeat (first | with_reducible exact Ext.refl _ | with_reducible assumption | with_reducible refine Ext.alloc ?_ _ | with_reducible refine Ext.drew ?_ | with_reducible refine Ext.drewN ?_ _ | with_reducible refine Ext.setCell ?_ (by first | exact Nat.le_refl _ | assumption | (simp; done) | omega) _ | with_reducible refine Ext.trans ?_ (by with_reducible assumption))); done)) ho3) (Ext.size (by ((repeat (first | with_reducible exact Ext.refl _ | with_reducible assumption | with_reducible refine Ext.alloc ?_ _ | with_reducible refine Ext.drew ?_ | with_reducible refine Ext.drewN ?_ _ | with_reducible refine Ext.setCell ?_ (by first | exact Nat.le_refl _ | assumption | (simp; done) | omega) _ | with_reducible refine Ext.trans ?_ (by with_reducible assumption))); done)))) _ _ 6 6 (sixV s.fl s.wn n).toList (by rfl) (Blk.reads (t := 5) (cs := sixV s.fl s.wn n) (by ((repeat (first | (with_reducible refine Blk.new' _ _ _ ?_; first | rfl | simp) | with_reducible assumption | with_reducible refine Blk.alloc ?_ _ | with_reducible refine Blk.drew ?_ | with_reducible refine Blk.drewN ?_ _ | with_reducible refine Blk.ext ?_ (by with_reducible assumption))); done))) (by simp [Value.oneCell']) (by simp only [maxLen]; omega) (by omega) (Ext.size (by ((repeat (first | with_reducible exact Ext.refl _ | with_reducible assumption | with_reducible refine Ext.alloc ?_ _ | with_reducible refine Ext.drew ?_ | with_reducible refine Ext.drewN ?_ _ | with_reducible refine Ext.setCell ?_ (by first | exact Nat.le_refl _ | assumption | (simp; done) | omega) _ | with_reducible refine Ext.trans ?_ (by with_reducible assumption))); done))) ?_; intro A4 c4 w4 ho4 hg4 ha4; have hx4 : Ext W w4 := Ext.grown (by ((repeat (first | with_reducible exact Ext.refl _ | with_reducible assumption | with_reducible refine Ext.alloc ?_ _ | with_reducible refine Ext.drew ?_ | with_reducible refine Ext.drewN ?_ _ | with_reducible refine Ext.setCell ?_ (by first | exact Nat.le_refl _ | assumption | (simp; done) | omega) _ | with_reducible refine Ext.trans ?_ (by with_reducible assumption))); done)) hg4 (fun k hk => Nat.le_trans (Ext.size (by ((repeat (first | with_reducible exact Ext.refl _ | with_reducible assumption | with_reducible refine Ext.alloc ?_ _ | with_reducible refine Ext.drew ?_ | with_reducible refine Ext.drewN ?_ _ | with_reducible refine Ext.setCell ?_ (by first | exact Nat.le_refl _ | assumption | (simp; done) | omega) _ | with_reducible refine Ext.trans ?_ (by with_reducible assumption))); done))) (ho3.lt k hk).1))
        | fail)
    all_goals (go_wp2_with fail; go_meet; exact ⟨A4, c4, rfl, by rw [sixV_eq, ← bytesV_append, ← bytesV_append] at ho4; exact ho4, hx4⟩)
  case rest =>
    obtain ⟨A4, c4, rfl, ho, hxx⟩ := hcut
    have k4' := hxx.cell k4
    have HR' := hide ((hx.trans hxx).reads HR.out hB)
    clear k0 k1 k2 k3 k4 hbx
    go_wp2_with (at_builtin; refine wpList_append_any _ rfl (.tmp 31) (.tmp 33) _ rfl W.heap.size 5 i0 _ 1 1 Try.underlying24 hi0 hz0 hz1 hz2 rfl (by omega) _ 14 _ rfl ho B A n c (bytesV s.data) rfl HR'.out (bytesV_one _) (by simp only [maxLen]; omega) (by omega) hxx.size ?_; intro A5 c5 w5 ho5 hg5 ha5)
    have hx5 : Ext W w5 := hxx.grown hg5 (fun k hk => (ho.lt k hk).1)
    have e0 : bytesV (four s.seq ++ four s.ack ++ [UInt8.ofNat s.fl, UInt8.ofNat s.wn, UInt8.ofNat n, 0, 0, 0]) ++ bytesV s.data = bytesV (raw s) := by
      rw [← bytesV_append, raw, HN.out]
    rw [e0] at ho5
    have hlr := raw_length s
    rw [HN.out] at hlr
    obtain ⟨g, rfl, hgb, hgl, hc1, hc2⟩ := own_addr ho5 (by omega)
    clear k4' HR' ha5 hg5 e0
    refine (sum_any _ _ _ _ _ _ (Reads.of_own ho5) hc2 hc1).mono ?_
    rintro e w' ⟨rfl, rfl⟩
    have q12 : w5.cell? ⟨g, 12, none⟩ = some (.int .u8 0) := by rw [ho5.cellAt 12 (by omega)]; simp [bytesV, raw, four]
    have q13 : w5.cell? ⟨g, 13, none⟩ = some (.int .u8 0) := by rw [ho5.cellAt 13 (by omega)]; simp [bytesV, raw, four]
    have f12 := ho5.frozenAt 12
    have f13 := ho5.frozenAt 13
    have hs1 := sumTo_le (raw s) (14 + n)
    have l12 : (12 : Int) < ((14 + n : Nat) : Int) := by omega
    have l13 : (13 : Int) < ((14 + n : Nat) : Int) := by omega
    go_wp2_with fail
    have ho7 := ((ho5.stored 12 (.int .u8 (((65535 - sumTo (raw s) (14 + n) : Nat) : Int) / 256))).1.stored 13 (.int .u8 (((65535 - sumTo (raw s) (14 + n) : Nat) : Int) % 256))).1
    rw [enc_cells s _ hlr] at ho7
    refine (bclone_any _ _ _ _ _ _ (Reads.of_own ho7) (bytesV_one _) (Nat.le_refl _) (by omega) (by simp)).mono ?_
    rintro e w8 ⟨A8, c8, rfl, ho8, hx8⟩
    go_wp2_with fail
    go_ret2
    have hx7 := ((hx5.setCell (p := ⟨g, 12, none⟩) hgb (.int .u8 (((65535 - sumTo (raw s) (14 + n) : Nat) : Int) / 256))).setCell (p := ⟨g, 13, none⟩) hgb (.int .u8 (((65535 - sumTo (raw s) (14 + n) : Nat) : Int) % 256)))
    exact ⟨A8, c8, rfl, own_mono ho8 (hx.trans hx7).size, (hx.trans hx7).trans hx8⟩
end Go.Proofs.Ytacfffegmmdgfaa.Sg
