/- The contract of ringkeep4.least: the first descriptor that is free. -/
import Derived.Test.YtikpdhkjkmbomaaPlTok
import Derived.WalkKit
import Derived.WalkSpells
import Derived.Deep.LoopGhost
import Derived.Lib.Strings
namespace Go.Proofs.Ytikpdhkjkmbomaa
open Go.RowKit
set_option linter.unusedVariables false

def LeRel (m : Nat) (v : Value) : Prop := ∃ j : Nat, j ≤ m ∧ v = .int .i64 j
theorem str_nil_ne {l : BsI} (h : l ≠ []) : ((str l).toList == []) = false := by
  rw [Go.Lib.toList_data, str_listI]
  exact beq_eq_false_iff_ne.2 h
set_option maxHeartbeats 2000000 in
set_option maxRecDepth 100000 in
theorem pleast_any (f : FdT) (b K : Nat) (w : World) (h : FdAt w b K f) (hl : leastT f < 8) :
    Calls Try.prog 15 #[.map (some b)] w fun e w' => e = .returned (.int .i64 (leastT f : Int)) ∧ w = w' := by
  have H := hide h
  have hf0 := least_at f (by rw [h.len]; exact hl)
  rw [← atT_getD] at hf0
  have HF0 := hide hf0
  have HFB := hide (least_below f)
  generalize leastT f = m at *
  clear h hf0
  go_enter Try.func15, Try.ntmps15
  go_wp2_with fail
  go_loop [3] (LeRel m) (fun i => m - (intOf i).toNat)
  case atStart => exact ⟨0, Nat.zero_le _, rfl⟩
  case round =>
    obtain ⟨j, hj, rfl⟩ := hrel
    have hlk := H.out.look (j : Int) (by omega) (by omega)
    by_cases hlt : j < m
    · have hne := (HFB.out j hlt).2
      rw [← atT_getD] at hne
      have t1 := str_nil_ne (fun e => hne ((tokS_nil _).1 e))
      generalize tokS (atT f (j : Int)) = X at *
      clear hne
      go_wp2_with fail
      go_round
      case rel => exact ⟨j + 1, by omega, by go_num⟩
      case measure => simp [intOf]; omega
    · obtain rfl : j = m := by omega
      rw [HF0.out, show str (tokS .no) = ⟨#[]⟩ from rfl] at hlk
      go_wp2_with fail
      go_ret
      exact ⟨rfl, rfl⟩
end Go.Proofs.Ytikpdhkjkmbomaa
