/- Tell, More, List. -/
import Derived.Test.YtoicpnpahjmegaaPipeTwo
namespace Go.Proofs.Ytoicpnpahjmegaa
open Go.RowKit
set_option linter.unusedVariables false

theorem results_tmp4 {fn : Func} {t u v x : Tmp} (h : fn.results = #[.tmp t, .tmp u, .tmp v, .tmp x]) (tmps : Array Value) (P : Program) (w : World) :
    (results fn tmps).run P w = .ok (.tuple #[tmps.getD t undef, tmps.getD u undef, tmps.getD v undef, tmps.getD x undef]) w := by
  simp [results, h]

set_option maxRecDepth 100000 in
theorem tell_ok (gp i g : Nat) (all : Array Value) (r s : Int) (A : Option Addr) (L c : Nat) (w : World) (hb : Blk w gp 51 all) (hi : i < 16) (hp : all[i]? = some (.pointer (some ⟨g, 0, none⟩))) (ho : OneAt w g r s (.slice A L c)) :
    Calls Try.prog 16 #[.pointer (some ⟨gp, 0, none⟩), .int .i64 ((i : Int) + 1)] w fun e w' => e = .returned (.tuple #[.int .i64 r, .int .i64 s, .int .i64 L, .int .i64 0]) ∧ Ext w w' := by
  have HF := hide (find_any gp i _ all w hb hi hp)
  have k0 : w.cell? ⟨g, 0, none⟩ = some (.int .i64 r) := ho.cell 0
  have k1 : w.cell? ⟨g, 1, none⟩ = some (.int .i64 s) := ho.cell 1
  have k2 : w.cell? ⟨g, 2, none⟩ = some (.slice A L c) := ho.cell 2
  clear hb hp ho
  go_enter Try.func16, Try.ntmps16
  go_wp2_with fail
  refine HF.out.mono ?_
  rintro e w' ⟨rfl, rfl⟩
  go_upto_region 4 with fail
  go_quiet (fail)
  go_wp2_with fail
  (try simp only [Exit.inBlock, Exit.then])
  refine bodyPost_ret (results_tmp4 rfl _ _ _) rfl ?_
  exact ⟨rfl, by ((repeat (first | with_reducible exact Ext.refl _ | with_reducible assumption | with_reducible refine Ext.alloc ?_ _ | with_reducible refine Ext.drew ?_ | with_reducible refine Ext.drewN ?_ _ | with_reducible refine Ext.setCell ?_ (by first | exact Nat.le_refl _ | assumption | (simp; done) | omega) _ | with_reducible refine Ext.trans ?_ (by with_reducible assumption))); done)⟩

set_option maxRecDepth 100000 in
theorem tell_none (gp i : Nat) (all : Array Value) (w : World) (hb : Blk w gp 51 all) (hi : i < 16) (hp : all[i]? = some (.pointer none)) :
    Calls Try.prog 16 #[.pointer (some ⟨gp, 0, none⟩), .int .i64 ((i : Int) + 1)] w fun e w' => e = .returned (.tuple #[.int .i64 0, .int .i64 0, .int .i64 0, .int .i64 4]) ∧ w = w' := by
  have HF := hide (find_any gp i _ all w hb hi hp)
  clear hb hp
  go_enter Try.func16, Try.ntmps16
  go_wp2_with fail
  refine HF.out.mono ?_
  rintro e w' ⟨rfl, rfl⟩
  go_wp2_with fail
  (try simp only [Exit.inBlock, Exit.then])
  refine bodyPost_ret (results_tmp4 rfl _ _ _) rfl ?_
  exact ⟨rfl, rfl⟩

set_option maxHeartbeats 1000000 in
set_option maxRecDepth 100000 in
theorem more_r (gp i g : Nat) (all : Array Value) (r s : Int) (v : Value) (w : World) (hb : Blk w gp 51 all) (hi : i < 16) (hp : all[i]? = some (.pointer (some ⟨g, 0, none⟩))) (ho : OneAt w g r s v) (hm : 0 < r) (hm2 : r < 64) :
    Calls Try.prog 15 #[.pointer (some ⟨gp, 0, none⟩), .int .i64 ((i : Int) + 1), .int .i64 0] w fun e w' => e = .returned (.int .i64 0) ∧ OneAt w' g (r + 1) s v ∧ Kept g (.slice none 0 0) w w' := by
  have HE := hide (end_ok gp i g all r s _ 0 w hb hi hp ho (by omega) (by simpa using (by omega : r ≠ 0)))
  have k0 : w.cell? ⟨g, 0, none⟩ = some (.int .i64 r) := ho.cell 0
  have k1 : w.cell? ⟨g, 1, none⟩ = some (.int .i64 s) := ho.cell 1
  have f0 := ho.frozen 0
  have HO := hide ho
  have t1 : ((r : Int) == 64) = false := by rw [beq_eq_false_iff_ne]; omega
  clear hb hp ho
  go_enter Try.func15, Try.ntmps15
  go_wp2_with fail
  refine HE.out.mono ?_
  rintro e w' ⟨rfl, rfl⟩
  go_upto_region 6 with fail
  refine wp_region_noPanic ?_
  go_region
  refine NoPanic.normal ?_
  have hb1 : OneAt (w.setCell ⟨g, 0, none⟩ (.int .i64 (r + 1))).drew g (r + 1) s v := HO.out.set_ 0 _
  have hk1 : Kept g (.slice none 0 0) w (w.setCell ⟨g, 0, none⟩ (.int .i64 (r + 1))).drew := ⟨rfl, rfl, rfl, by simp, fun k hk hne _ => Below.heap_setCell _ _ _ _ (by show k ≠ g; exact hne)⟩
  generalize (w.setCell ⟨g, 0, none⟩ (.int .i64 (r + 1))).drew = w1 at hb1 hk1 ⊢
  clear k0 k1 f0
  go_wp2_with fail
  go_ret
  exact ⟨rfl, hb1, hk1⟩

set_option maxHeartbeats 1000000 in
set_option maxRecDepth 100000 in
theorem more_w (gp i g : Nat) (all : Array Value) (r s : Int) (v : Value) (w : World) (hb : Blk w gp 51 all) (hi : i < 16) (hp : all[i]? = some (.pointer (some ⟨g, 0, none⟩))) (ho : OneAt w g r s v) (hm : 0 < s) (hm2 : s < 64) :
    Calls Try.prog 15 #[.pointer (some ⟨gp, 0, none⟩), .int .i64 ((i : Int) + 1), .int .i64 1] w fun e w' => e = .returned (.int .i64 0) ∧ OneAt w' g r (s + 1) v ∧ Kept g (.slice none 0 0) w w' := by
  have HE := hide (end_ok gp i g all r s _ 1 w hb hi hp ho (by omega) (by simpa using (by omega : s ≠ 0)))
  have k0 : w.cell? ⟨g, 0, none⟩ = some (.int .i64 r) := ho.cell 0
  have k1 : w.cell? ⟨g, 1, none⟩ = some (.int .i64 s) := ho.cell 1
  have f0 := ho.frozen 1
  have HO := hide ho
  have t1 : ((s : Int) == 64) = false := by rw [beq_eq_false_iff_ne]; omega
  clear hb hp ho
  go_enter Try.func15, Try.ntmps15
  go_wp2_with fail
  refine HE.out.mono ?_
  rintro e w' ⟨rfl, rfl⟩
  go_upto_region 6 with fail
  refine wp_region_noPanic ?_
  go_region
  refine NoPanic.normal ?_
  have hb1 : OneAt (w.setCell ⟨g, 1, none⟩ (.int .i64 (s + 1))).drew g r (s + 1) v := HO.out.set_ 1 _
  have hk1 : Kept g (.slice none 0 0) w (w.setCell ⟨g, 1, none⟩ (.int .i64 (s + 1))).drew := ⟨rfl, rfl, rfl, by simp, fun k hk hne _ => Below.heap_setCell _ _ _ _ (by show k ≠ g; exact hne)⟩
  generalize (w.setCell ⟨g, 1, none⟩ (.int .i64 (s + 1))).drew = w1 at hb1 hk1 ⊢
  clear k0 k1 f0
  go_wp2_with fail
  go_ret
  exact ⟨rfl, hb1, hk1⟩
end Go.Proofs.Ytoicpnpahjmegaa
