/- Less and More: one fewer, or one more, has an end; where nobody has one any more the place in the table is free. (Printed by gen_less.py.) -/
import Derived.Test.YtoicpnpahjmegaaPipeAny
import Derived.Laws.StructEq
import Derived.Laws.Tables
import Derived.Laws.Cover2
namespace Go.Proofs.Ytoicpnpahjmegaa
open Go.RowKit
set_option linter.unusedVariables false

theorem eq_ends (a b c d : Int) (w : World) : (Op.equalIn 10000 54 (.agg #[.int .i64 a, .int .i64 b]) (.agg #[.int .i64 c, .int .i64 d])).run Try.prog w = .ok (a == c && b == d) w := by
  have u3 := Try.underlying3
  have a3 := Try.isAgg3
  have z3 := Try.sizeOf3
  rw [show (10000 : Nat) = 9999 + 1 from rfl, Op.equalIn]
  simp only [Sem.run_bind, run_underlying Try.underlying54, Result.andThen_ok]
  simp only [Std.Legacy.Range.forIn_eq_forIn_range', Std.Legacy.Range.size, Nat.sub_zero, Nat.add_sub_cancel, Nat.div_one, List.range'_succ, List.range'_zero, List.forIn_cons, List.forIn_nil]
  go_simp
  by_cases h1 : a = c <;> by_cases h2 : b = d <;> simp [h1, h2]

set_option maxHeartbeats 1000000 in
set_option maxRecDepth 100000 in
theorem less_r (gp i g : Nat) (all : Array Value) (r s : Int) (v : Value) (w : World) (hb : Blk w gp 51 all) (hi : i < 16) (hp : all[i]? = some (.pointer (some ⟨g, 0, none⟩))) (ho : OneAt w g r s v) (hm : 0 < r) (hm2 : r ≤ 64) (hn : 1 < r ∨ s ≠ 0) :
    Calls Try.prog 17 #[.pointer (some ⟨gp, 0, none⟩), .int .i64 ((i : Int) + 1), .int .i64 0] w fun e w' => e = .returned (.int .i64 0) ∧ OneAt w' g (r - 1) s v ∧ Kept g (.slice none 0 0) w w' := by
  have HE := hide (end_ok gp i g all r s _ 0 w hb hi hp ho (by omega) (by simpa using (by omega : r ≠ 0)))
  have k0 : w.cell? ⟨g, 0, none⟩ = some (.int .i64 r) := ho.cell 0
  have k1 : w.cell? ⟨g, 1, none⟩ = some (.int .i64 s) := ho.cell 1
  have f0 := ho.frozen 0
  have HO := hide ho
  have HB := hide hb
  have HP := hide hp
  have t1 : ((r - 1 : Int) == 0 && (s : Int) == 0) = false := by simp only [Bool.and_eq_false_iff, beq_eq_false_iff_ne]; omega
  have hgg : gp ≠ g := by
    intro e
    have h1 := hb
    have h2 := ho
    subst e
    simp only [Blk] at h1 h2
    rw [h1] at h2
    simp at h2
  clear hb hp ho 
  go_enter Try.func17, Try.ntmps17
  go_wp2_with fail
  refine HE.out.mono ?_
  rintro e w' ⟨rfl, rfl⟩
  go_upto_region 4 with fail
  refine wp_region_noPanic ?_
  go_region
  refine NoPanic.normal ?_
  have hb1 : OneAt (w.setCell ⟨g, 0, none⟩ (.int .i64 (r - 1))).drew g (r - 1) s v := HO.out.set_ 0 _
  have hk1 : Kept g (.slice none 0 0) w (w.setCell ⟨g, 0, none⟩ (.int .i64 (r - 1))).drew := ⟨rfl, rfl, rfl, by simp, fun k hk hne _ => Below.heap_setCell _ _ _ _ (by show k ≠ g; exact hne)⟩
  generalize (w.setCell ⟨g, 0, none⟩ (.int .i64 (r - 1))).drew = w1 at hb1 hk1 ⊢
  have c0 : w1.cell? ⟨g, 0, none⟩ = some (.int .i64 (r - 1)) := hb1.cell 0
  have c1 : w1.cell? ⟨g, 1, none⟩ = some (.int .i64 s) := hb1.cell 1
  have hq := eq_ends (r - 1) s 0 0 w1
  rw [t1] at hq
  clear t1
  clear k0 k1 f0
  go_wp2_with fail
  go_ret
  exact ⟨rfl, hb1, hk1⟩

set_option maxHeartbeats 1000000 in
set_option maxRecDepth 100000 in
theorem less_w (gp i g : Nat) (all : Array Value) (r s : Int) (v : Value) (w : World) (hb : Blk w gp 51 all) (hi : i < 16) (hp : all[i]? = some (.pointer (some ⟨g, 0, none⟩))) (ho : OneAt w g r s v) (hm : 0 < s) (hm2 : s ≤ 64) (hn : 1 < s ∨ r ≠ 0) :
    Calls Try.prog 17 #[.pointer (some ⟨gp, 0, none⟩), .int .i64 ((i : Int) + 1), .int .i64 1] w fun e w' => e = .returned (.int .i64 0) ∧ OneAt w' g r (s - 1) v ∧ Kept g (.slice none 0 0) w w' := by
  have HE := hide (end_ok gp i g all r s _ 1 w hb hi hp ho (by omega) (by simpa using (by omega : s ≠ 0)))
  have k0 : w.cell? ⟨g, 0, none⟩ = some (.int .i64 r) := ho.cell 0
  have k1 : w.cell? ⟨g, 1, none⟩ = some (.int .i64 s) := ho.cell 1
  have f0 := ho.frozen 1
  have HO := hide ho
  have HB := hide hb
  have HP := hide hp
  have t1 : ((r : Int) == 0 && (s - 1 : Int) == 0) = false := by simp only [Bool.and_eq_false_iff, beq_eq_false_iff_ne]; omega
  have hgg : gp ≠ g := by
    intro e
    have h1 := hb
    have h2 := ho
    subst e
    simp only [Blk] at h1 h2
    rw [h1] at h2
    simp at h2
  clear hb hp ho 
  go_enter Try.func17, Try.ntmps17
  go_wp2_with fail
  refine HE.out.mono ?_
  rintro e w' ⟨rfl, rfl⟩
  go_upto_region 4 with fail
  refine wp_region_noPanic ?_
  go_region
  refine NoPanic.normal ?_
  have hb1 : OneAt (w.setCell ⟨g, 1, none⟩ (.int .i64 (s - 1))).drew g r (s - 1) v := HO.out.set_ 1 _
  have hk1 : Kept g (.slice none 0 0) w (w.setCell ⟨g, 1, none⟩ (.int .i64 (s - 1))).drew := ⟨rfl, rfl, rfl, by simp, fun k hk hne _ => Below.heap_setCell _ _ _ _ (by show k ≠ g; exact hne)⟩
  generalize (w.setCell ⟨g, 1, none⟩ (.int .i64 (s - 1))).drew = w1 at hb1 hk1 ⊢
  have c0 : w1.cell? ⟨g, 0, none⟩ = some (.int .i64 r) := hb1.cell 0
  have c1 : w1.cell? ⟨g, 1, none⟩ = some (.int .i64 (s - 1)) := hb1.cell 1
  have hq := eq_ends r (s - 1) 0 0 w1
  rw [t1] at hq
  clear t1
  clear k0 k1 f0
  go_wp2_with fail
  go_ret
  exact ⟨rfl, hb1, hk1⟩

set_option maxHeartbeats 1000000 in
set_option maxRecDepth 100000 in
theorem less_r_last (gp i g : Nat) (all : Array Value) (r s : Int) (v : Value) (w : World) (hb : Blk w gp 51 all) (hi : i < 16) (hp : all[i]? = some (.pointer (some ⟨g, 0, none⟩))) (ho : OneAt w g r s v) (hm : 0 < r) (hm2 : r ≤ 64) (h1 : r = 1) (h2 : s = 0) :
    Calls Try.prog 17 #[.pointer (some ⟨gp, 0, none⟩), .int .i64 ((i : Int) + 1), .int .i64 0] w fun e w' => e = .returned (.int .i64 0) ∧ Blk w' gp 51 (all.setIfInBounds i (.pointer none)) ∧ (∀ k, k < w.heap.size → k ≠ g → k ≠ gp → w'.heap[k]? = w.heap[k]?) ∧ w'.os = w.os ∧ w'.tape = w.tape ∧ w'.output = w.output ∧ w.heap.size ≤ w'.heap.size := by
  have HE := hide (end_ok gp i g all r s _ 0 w hb hi hp ho (by omega) (by simpa using (by omega : r ≠ 0)))
  have k0 : w.cell? ⟨g, 0, none⟩ = some (.int .i64 r) := ho.cell 0
  have k1 : w.cell? ⟨g, 1, none⟩ = some (.int .i64 s) := ho.cell 1
  have f0 := ho.frozen 0
  have HO := hide ho
  have HB := hide hb
  have HP := hide hp
  have t1 : ((r - 1 : Int) == 0 && (s : Int) == 0) = true := by subst h1; subst h2; rfl
  have hgg : gp ≠ g := by
    intro e
    have h1 := hb
    have h2 := ho
    subst e
    simp only [Blk] at h1 h2
    rw [h1] at h2
    simp at h2
  clear hb hp ho h1 h2
  go_enter Try.func17, Try.ntmps17
  go_wp2_with fail
  refine HE.out.mono ?_
  rintro e w' ⟨rfl, rfl⟩
  go_upto_region 4 with fail
  refine wp_region_noPanic ?_
  go_region
  refine NoPanic.normal ?_
  have hb1 : OneAt (w.setCell ⟨g, 0, none⟩ (.int .i64 (r - 1))).drew g (r - 1) s v := HO.out.set_ 0 _
  have hk1 : Kept g (.slice none 0 0) w (w.setCell ⟨g, 0, none⟩ (.int .i64 (r - 1))).drew := ⟨rfl, rfl, rfl, by simp, fun k hk hne _ => Below.heap_setCell _ _ _ _ (by show k ≠ g; exact hne)⟩
  generalize (w.setCell ⟨g, 0, none⟩ (.int .i64 (r - 1))).drew = w1 at hb1 hk1 ⊢
  have c0 : w1.cell? ⟨g, 0, none⟩ = some (.int .i64 (r - 1)) := hb1.cell 0
  have c1 : w1.cell? ⟨g, 1, none⟩ = some (.int .i64 s) := hb1.cell 1
  have hq := eq_ends (r - 1) s 0 0 w1
  rw [t1] at hq
  clear t1
  have hp1 := hk1.blk HB.out hgg (by simp [Value.ownBlock])
  have d0 : w1.cell? ⟨gp, i, none⟩ = some (.pointer (some ⟨g, 0, none⟩)) := (hp1.cell i).trans HP.out
  have df := hp1.frozen i
  have i0 : (0 : Int) ≤ (i : Int) := by omega
  have i1 : (i : Int) < 16 := by omega
  clear k0 k1 f0
  go_wp2_with fail
  go_ret
  exact ⟨rfl, hp1.set_ i _, fun k hk h1 h2 => (Below.heap_setCell _ _ _ _ (by show k ≠ gp; exact h2)).trans (hk1.block k hk h1 (by simp [Value.ownBlock])), hk1.os, hk1.tape, hk1.output, by simpa using hk1.size⟩

set_option maxHeartbeats 1000000 in
set_option maxRecDepth 100000 in
theorem less_w_last (gp i g : Nat) (all : Array Value) (r s : Int) (v : Value) (w : World) (hb : Blk w gp 51 all) (hi : i < 16) (hp : all[i]? = some (.pointer (some ⟨g, 0, none⟩))) (ho : OneAt w g r s v) (hm : 0 < s) (hm2 : s ≤ 64) (h1 : s = 1) (h2 : r = 0) :
    Calls Try.prog 17 #[.pointer (some ⟨gp, 0, none⟩), .int .i64 ((i : Int) + 1), .int .i64 1] w fun e w' => e = .returned (.int .i64 0) ∧ Blk w' gp 51 (all.setIfInBounds i (.pointer none)) ∧ (∀ k, k < w.heap.size → k ≠ g → k ≠ gp → w'.heap[k]? = w.heap[k]?) ∧ w'.os = w.os ∧ w'.tape = w.tape ∧ w'.output = w.output ∧ w.heap.size ≤ w'.heap.size := by
  have HE := hide (end_ok gp i g all r s _ 1 w hb hi hp ho (by omega) (by simpa using (by omega : s ≠ 0)))
  have k0 : w.cell? ⟨g, 0, none⟩ = some (.int .i64 r) := ho.cell 0
  have k1 : w.cell? ⟨g, 1, none⟩ = some (.int .i64 s) := ho.cell 1
  have f0 := ho.frozen 1
  have HO := hide ho
  have HB := hide hb
  have HP := hide hp
  have t1 : ((r : Int) == 0 && (s - 1 : Int) == 0) = true := by subst h1; subst h2; rfl
  have hgg : gp ≠ g := by
    intro e
    have h1 := hb
    have h2 := ho
    subst e
    simp only [Blk] at h1 h2
    rw [h1] at h2
    simp at h2
  clear hb hp ho h1 h2
  go_enter Try.func17, Try.ntmps17
  go_wp2_with fail
  refine HE.out.mono ?_
  rintro e w' ⟨rfl, rfl⟩
  go_upto_region 4 with fail
  refine wp_region_noPanic ?_
  go_region
  refine NoPanic.normal ?_
  have hb1 : OneAt (w.setCell ⟨g, 1, none⟩ (.int .i64 (s - 1))).drew g r (s - 1) v := HO.out.set_ 1 _
  have hk1 : Kept g (.slice none 0 0) w (w.setCell ⟨g, 1, none⟩ (.int .i64 (s - 1))).drew := ⟨rfl, rfl, rfl, by simp, fun k hk hne _ => Below.heap_setCell _ _ _ _ (by show k ≠ g; exact hne)⟩
  generalize (w.setCell ⟨g, 1, none⟩ (.int .i64 (s - 1))).drew = w1 at hb1 hk1 ⊢
  have c0 : w1.cell? ⟨g, 0, none⟩ = some (.int .i64 r) := hb1.cell 0
  have c1 : w1.cell? ⟨g, 1, none⟩ = some (.int .i64 (s - 1)) := hb1.cell 1
  have hq := eq_ends r (s - 1) 0 0 w1
  rw [t1] at hq
  clear t1
  have hp1 := hk1.blk HB.out hgg (by simp [Value.ownBlock])
  have d0 : w1.cell? ⟨gp, i, none⟩ = some (.pointer (some ⟨g, 0, none⟩)) := (hp1.cell i).trans HP.out
  have df := hp1.frozen i
  have i0 : (0 : Int) ≤ (i : Int) := by omega
  have i1 : (i : Int) < 16 := by omega
  clear k0 k1 f0
  go_wp2_with fail
  go_ret
  exact ⟨rfl, hp1.set_ i _, fun k hk h1 h2 => (Below.heap_setCell _ _ _ _ (by show k ≠ gp; exact h2)).trans (hk1.block k hk h1 (by simp [Value.ownBlock])), hk1.os, hk1.tape, hk1.output, by simpa using hk1.size⟩
end Go.Proofs.Ytoicpnpahjmegaa
