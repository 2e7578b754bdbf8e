/- List, of a table whose first two places are taken. -/
import Derived.Test.YtoicpnpahjmegaaPipeTell
namespace Go.Proofs.Ytoicpnpahjmegaa
open Go.RowKit
set_option linter.unusedVariables false

theorem int_info : (Try.prog.info? 3).map (fun i => (i.zero, i.size, i.bytes)) = some (some (.int .i64 0), 1, 8) := by kernel_rfl
theorem idx_arr (cs : Array Value) (k : Nat) (p : Option Addr) (h : cs[k]? = some (.pointer p)) (hk : k < 16) (w : World) : (Instr.index 49 (.agg cs) (.int .i64 (k : Int))).run Try.prog w = .ok (.pointer p) w := by
  have h0 : (0 : Int) ≤ (k : Int) := by omega
  simp [Instr.index, run_underlying Try.underlying49, asIntOf, h0, go_sem, Try.sizeOf48, Try.isAgg48, part, h]
  intro h; omega
abbrev twoP (p q : Addr) : Array Value := #[.pointer (some p), .pointer (some q), .pointer none, .pointer none, .pointer none, .pointer none, .pointer none, .pointer none, .pointer none, .pointer none, .pointer none, .pointer none, .pointer none, .pointer none, .pointer none, .pointer none]
theorem reads_one (w : World) (t : TypeId) (v : Value) : Reads (w.alloc (.cells #[v] t)) (w.heap.size + 1) 1 (some ⟨w.heap.size, 0, none⟩) 1 [v] := by
  have := (Blk.new w t #[v]).reads
  simpa using this
theorem twoP_lo (p q : Addr) (k : Nat) (hk : k < 2) : ∃ a, (twoP p q)[k]? = some (.pointer (some a)) := by
  match k, hk with
  | 0, _ => exact ⟨p, rfl⟩
  | 1, _ => exact ⟨q, rfl⟩
theorem twoP_hi (p q : Addr) (k : Nat) (h2 : 2 ≤ k) (hk : k < 16) : (twoP p q)[k]? = some (.pointer none) := by
  have : k = 2 ∨ k = 3 ∨ k = 4 ∨ k = 5 ∨ k = 6 ∨ k = 7 ∨ k = 8 ∨ k = 9 ∨ k = 10 ∨ k = 11 ∨ k = 12 ∨ k = 13 ∨ k = 14 ∨ k = 15 := by omega
  rcases this with rfl | rfl | rfl | rfl | rfl | rfl | rfl | rfl | rfl | rfl | rfl | rfl | rfl | rfl <;> rfl
def lst (k : Nat) : List Value := ([.int .i64 1, .int .i64 2] : List Value).take k
theorem lst_snoc (k : Nat) (h : k < 2) : lst k ++ [.int .i64 ((k : Int) + 1)] = lst (k + 1) := by
  match k, h with
  | 0, _ => rfl
  | 1, _ => rfl
theorem lst_two (k : Nat) (h : 2 ≤ k) : lst k = [.int .i64 1, .int .i64 2] := by simp [lst, List.take_of_length_le, h]
def ListRel (w : World) (o i : Value) (w' : World) : Prop := ∃ k m A c, k ≤ 16 ∧ i = .int .i64 (k : Nat) ∧ o = .slice A m c ∧ m = min k 2 ∧ w'.ownsRow w.heap.size 3 1 (.slice A m c) m (lst k) ∧ Ext w w'

set_option maxHeartbeats 4000000 in
set_option maxRecDepth 100000 in
theorem list_two (gp : Nat) (p q : Addr) (w : World) (hb : Blk w gp 51 (twoP p q)) :
    Calls Try.prog 19 #[.pointer (some ⟨gp, 0, none⟩)] w fun e w' => ∃ A c, e = .returned (.slice A 2 c) ∧ w'.ownsRow w.heap.size 3 1 (.slice A 2 c) 2 [.int .i64 1, .int .i64 2] ∧ Ext w w' := by
  obtain ⟨i0, hi0, hz0, hz1, hz2⟩ := info_parts int_info
  have k0 : w.cell? ⟨gp, 0, none⟩ = some (.pointer (some p)) := hb.cell 0
  have k1 : w.cell? ⟨gp, 1, none⟩ = some (.pointer (some q)) := hb.cell 1
  have k2 : w.cell? ⟨gp, 2, none⟩ = some (.pointer none) := hb.cell 2
  have k3 : w.cell? ⟨gp, 3, none⟩ = some (.pointer none) := hb.cell 3
  have k4 : w.cell? ⟨gp, 4, none⟩ = some (.pointer none) := hb.cell 4
  have k5 : w.cell? ⟨gp, 5, none⟩ = some (.pointer none) := hb.cell 5
  have k6 : w.cell? ⟨gp, 6, none⟩ = some (.pointer none) := hb.cell 6
  have k7 : w.cell? ⟨gp, 7, none⟩ = some (.pointer none) := hb.cell 7
  have k8 : w.cell? ⟨gp, 8, none⟩ = some (.pointer none) := hb.cell 8
  have k9 : w.cell? ⟨gp, 9, none⟩ = some (.pointer none) := hb.cell 9
  have k10 : w.cell? ⟨gp, 10, none⟩ = some (.pointer none) := hb.cell 10
  have k11 : w.cell? ⟨gp, 11, none⟩ = some (.pointer none) := hb.cell 11
  have k12 : w.cell? ⟨gp, 12, none⟩ = some (.pointer none) := hb.cell 12
  have k13 : w.cell? ⟨gp, 13, none⟩ = some (.pointer none) := hb.cell 13
  have k14 : w.cell? ⟨gp, 14, none⟩ = some (.pointer none) := hb.cell 14
  have k15 : w.cell? ⟨gp, 15, none⟩ = some (.pointer none) := hb.cell 15
  clear hb
  go_enter Try.func19, Try.ntmps19
  go_wp2_with fail
  go_loopw [3, 10] (ListRel w) (fun _ i _ => 16 - (intOf i).toNat)
  case atStart => exact ⟨0, 0, none, 0, by omega, rfl, rfl, rfl, World.ownsRow_nil _ _ _ _, Ext.refl _⟩
  case round =>
    obtain ⟨k, m, A1, c1, hk, rfl, rfl, hm, ho, hx⟩ := hrel
    have HO := hide ho
    have HXX := hide hx
    have HM := hide hm
    clear ho hx hm k0 k1 k2 k3 k4 k5 k6 k7 k8 k9 k10 k11 k12 k13 k14 k15
    by_cases hlt : k < 16
    · by_cases h2 : k < 2
      · obtain ⟨a, ha⟩ := twoP_lo p q k h2
        have hix := fun W => idx_arr _ k (some a) ha hlt W
        clear ha
        go_wp2_with (at_builtin; refine wpList_append_any _ rfl (.tmp 16) (.tmp 19) 39 rfl w.heap.size 3 i0 _ 1 8 Try.underlying39 hi0 hz0 hz1 hz2 rfl (by omega) _ m (lst k) rfl (HO.out.alloc _) _ _ 1 1 [.int .i64 ((k : Int) + 1)] rfl (reads_one _ _ _) (by simp [Value.oneCell']) (by simp only [maxLen]; have := HM.out; omega) (by have := HM.out; omega) (by simp; have := HXX.out.size; omega) ?_; intro A4 c4 w4 ho4 hg4 ha4)
        go_roundw
        case rel => exact ⟨k + 1, m + 1, A4, c4, by omega, by go_num, rfl, by have := HM.out; omega, by rw [← lst_snoc k h2]; exact ho4, (HXX.out.alloc _).grown hg4 (fun j hj => (HO.out.lt j hj).1)⟩
        case measure => simp [intOf]; omega
      · have hix := fun W => idx_arr _ k none (twoP_hi p q k (by omega) hlt) hlt W
        go_wp2_with fail
        go_roundw
        case rel => exact ⟨k + 1, m, A1, c1, by omega, by go_num, rfl, by have := HM.out; omega, by have := HO.out; rw [lst_two _ (by omega)] at this ⊢; exact this, HXX.out⟩
        case measure => simp [intOf]; omega
    · obtain rfl : k = 16 := by omega
      go_wp2_with fail
      go_ret
      obtain rfl : m = 2 := by have := HM.out; omega
      exact ⟨A1, c1, rfl, HO.out, HXX.out⟩
end Go.Proofs.Ytoicpnpahjmegaa
