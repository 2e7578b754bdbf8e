/- live() is true. -/
import Derived.Test.YtoicpnpahjmegaaPipeErr
import Derived.Lib.SlBytesConst
namespace Go.Proofs.Ytoicpnpahjmegaa
open Go.RowKit
set_option linter.unusedVariables false

abbrev nones : Array Value := #[.pointer none, .pointer none, .pointer none, .pointer none, .pointer none, .pointer none, .pointer none, .pointer none, .pointer none, .pointer none, .pointer none, .pointer none, .pointer none, .pointer none, .pointer none, .pointer none]

theorem new_st (w : World) : Calls Try.prog 8 #[] w fun e w' => e = .returned (.pointer (some ⟨w.heap.size, 0, none⟩)) ∧ Blk w' w.heap.size 51 nones ∧ Ext w w' := by
  refine (new_any w).mono ?_
  rintro e w' ⟨rfl, rfl⟩
  exact ⟨rfl, Blk.new' _ _ _ rfl, by ((repeat (first | with_reducible exact Ext.refl _ | with_reducible assumption | with_reducible refine Ext.alloc ?_ _ | with_reducible refine Ext.drew ?_ | with_reducible refine Ext.drewN ?_ _ | with_reducible refine Ext.setCell ?_ (by first | exact Nat.le_refl _ | assumption | (simp; done) | omega) _ | with_reducible refine Ext.trans ?_ (by with_reducible assumption))); done)⟩

theorem St.keep {w0 : World} {gp : Nat} {all : Array Value} {i g : Nat} {r s : Int} {v : Value} {bs : List UInt8} {w w' : World} (h : St w0 gp all i g r s v bs w) (hx : Ext w w') : St w0 gp all i g r s v bs w' :=
  ⟨h.blk.ext hx, h.hi, h.hp, h.gpb, h.gb, h.ext.trans hx, h.one.ext hx, hx.own h.own, h.len⟩
theorem reads_lit (w : World) (bs : List UInt8) (e : TypeId) (fr : Nat × Nat) : Reads (w.alloc (.cells (bytesV bs).toArray e fr)) (w.heap.size + 1) 1 (some ⟨w.heap.size, 0, none⟩) bs.length (bytesV bs) := by
  refine ⟨by rw [bytesV_length]; omega, fun _ => ⟨_, rfl, Nat.lt_succ_self _, fun j u hu => ?_⟩⟩
  rw [add_lit, World.cell?_alloc_mark]
  simpa using hu

set_option maxHeartbeats 1000000 in
set_option maxRecDepth 100000 in
theorem live_ok (w : World) : Calls Try.prog 14 #[] w fun e w' => e = .returned (.bool true) ∧ Ext w w' := by
  go_enter Try.func14, Try.ntmps14
  go_wp2_with fail
  refine (new_st w).mono ?_
  rintro e w1 ⟨rfl, hb1, hx1⟩
  go_wp2_with fail
  refine (make_st (w0 := w) w.heap.size 0 nones w1 hb1 hx1 (Nat.le_refl _) (by omega) rfl rfl (fun j hj => by omega)).mono ?_
  rintro e w2 ⟨rfl, h2, _⟩
  have hcv := Lib.run_convert_bytes_const (P := Try.prog) w2 22 5 #[.int .u8 97, .int .u8 98] 2 2 Try.underlying22 Try.underlying5
  go_wp2_with fail
  have hx3 : Ext w2 (w2.alloc (.cells #[.int .u8 97, .int .u8 98] 5 (2, 3))) := by ((repeat (first | with_reducible exact Ext.refl _ | with_reducible assumption | with_reducible refine Ext.alloc ?_ _ | with_reducible refine Ext.drew ?_ | with_reducible refine Ext.drewN ?_ _ | with_reducible refine Ext.setCell ?_ (by first | exact Nat.le_refl _ | assumption | (simp; done) | omega) _ | with_reducible refine Ext.trans ?_ (by with_reducible assumption))); done)
  have hr3 := reads_lit w2 [97, 98] 5 (2, 3)
  refine (write_st _ 2 2 _ [97, 98] _ (h2.keep hx3) (by decide) (by decide) hr3 rfl (by omega) (by omega) (by simp)).mono ?_
  rintro e w4 ⟨rfl, v4, h4, _, _⟩
  have H4 := hide h4
  clear h4 h2 hcv hr3 hx3
  go_wp2_with fail
  refine (read_st 9 2 w4 H4.out (by decide) (by omega) (by simp) (by simp)).mono ?_
  rintro e w5 ⟨A5, c5, rfl, ho5, v5, h5, _, _⟩
  have hs5 := conv_str (P := Try.prog) Try.underlying22 Try.underlying5 Try.underlying9 (Reads.of_own ho5) c5
  go_wp2_with fail
  go_ret
  exact ⟨rfl, h5.ext⟩
end Go.Proofs.Ytoicpnpahjmegaa
