/- The table of processes: 1 is the first one, 2 .. n are its children. -/
import Derived.Test.YthmojneobkaolaaGreatDoorRows
import Derived.Test.YthmojneobkaolaaGreatDoorArr
import Derived.Test.YthmojneobkaolaaGreatDoorKeepL
import Derived.WalkKit
import Derived.WalkSpells
import Derived.ProofKit
import Derived.Deep.QuietTactic
import Derived.BigQuiet
import Derived.Deep.RegionHeld3
import Derived.Deep.DeepCutAuto
namespace Go.Proofs.YthmojneobkaolaaGreatDoor
open Go.RowKit
set_option linter.unusedVariables false

/-- A cell of the table: entry o / 4, field o % 4. -/
def procF (n : Nat) (o : Nat) : Value := .int .i64 (if 1 ≤ o / 4 ∧ o / 4 ≤ n then (if o % 4 = 0 then 1 else if o % 4 = 1 then (if o / 4 = 1 then 0 else 1) else if o % 4 = 2 then 1 else 0) else 0)
def ProcAt (w : World) (g n : Nat) : Prop := Arr w g 185 68 (procF n)
theorem number_any (p : Int) (w : World) : Calls Tryz.prog 79 #[.int .i64 p] w fun e w' => e = .returned (.bool (decide (1 ≤ p ∧ p ≤ 16))) ∧ w = w' := by
  by_cases h1 : 1 ≤ p
  · by_cases h2 : p ≤ 16
    · rw [decide_eq_true (show 1 ≤ p ∧ p ≤ 16 from ⟨h1, h2⟩)]
      go_enter Tryz.func79, Tryz.ntmps79
      go_wp2_with fail
      go_ret
      exact ⟨rfl, rfl⟩
    · rw [decide_eq_false (show ¬ (1 ≤ p ∧ p ≤ 16) from fun h => h2 h.2)]
      have t1 : decide (p ≤ 16) = false := decide_eq_false h2
      go_enter Tryz.func79, Tryz.ntmps79
      go_wp2_with fail
      go_ret
      exact ⟨rfl, rfl⟩
  · rw [decide_eq_false (show ¬ (1 ≤ p ∧ p ≤ 16) from fun h => h1 h.1)]
    have t1 : decide (1 ≤ p) = false := decide_eq_false h1
    go_enter Tryz.func79, Tryz.ntmps79
    go_wp2_with fail
    go_ret
    exact ⟨rfl, rfl⟩
theorem number_ok (p : Nat) (h1 : 1 ≤ p) (h2 : p ≤ 16) (w : World) : Calls Tryz.prog 79 #[.int .i64 (p : Int)] w fun e w' => e = .returned (.bool true) ∧ w = w' := by
  have h := number_any (p : Int) w
  rwa [decide_eq_true (show 1 ≤ (p : Int) ∧ (p : Int) ≤ 16 by omega)] at h
theorem procF_at (n p f : Nat) (h1 : 1 ≤ p) (h2 : p ≤ n) (hf : f < 4) : procF n (p * 4 + f) = .int .i64 (if f = 0 then 1 else if f = 1 then (if p = 1 then 0 else 1) else if f = 2 then 1 else 0) := by
  unfold procF
  rw [show (p * 4 + f) / 4 = p by omega, show (p * 4 + f) % 4 = f by omega, if_pos ⟨h1, h2⟩]
theorem procF_off (n p f : Nat) (h : p = 0 ∨ n < p) (hf : f < 4) : procF n (p * 4 + f) = .int .i64 0 := by
  unfold procF
  rw [show (p * 4 + f) / 4 = p by omega, if_neg (by omega)]
set_option maxHeartbeats 4000000 in
theorem state_ok {w : World} {g n : Nat} (h : ProcAt w g n) (p : Nat) (h1 : 1 ≤ p) (h2 : p ≤ n) (hn : n ≤ 16) :
    Calls Tryz.prog 36 #[.pointer (some ⟨g, 0, none⟩), .int .i64 (p : Int)] w fun e w' => e = .returned (.tuple #[.int .i64 1, .int .i64 0]) ∧ w = w' := by
  have HN := hide (number_ok p h1 (by omega))
  have c0 : w.cell? ⟨g, p * 4, none⟩ = some (.int .i64 1) := by
    have := h.cell (p * 4) (by omega)
    rw [show p * 4 = p * 4 + 0 from rfl, procF_at n p 0 h1 h2 (by omega)] at this
    exact this
  have h16 : (p : Int) < 17 := by omega
  clear h
  go_enter Tryz.func36, Tryz.ntmps36
  go_wp2_with fail
  refine (HN.out w).mono ?_
  rintro e w' ⟨rfl, rfl⟩
  go_wp2_with fail
  go_ret2
  exact ⟨rfl, rfl⟩
set_option maxHeartbeats 4000000 in
theorem parent_ok {w : World} {g n : Nat} (h : ProcAt w g n) (p : Nat) (h1 : 1 ≤ p) (h2 : p ≤ n) (hn : n ≤ 16) :
    Calls Tryz.prog 115 #[.pointer (some ⟨g, 0, none⟩), .int .i64 (p : Int)] w fun e w' => (∃ k : Int, e = .returned (.tuple #[.int .i64 k, .int .i64 0])) ∧ w = w' := by
  have HN := hide (number_ok p h1 (by omega))
  have c0 : w.cell? ⟨g, p * 4, none⟩ = some (.int .i64 1) := by
    have := h.cell (p * 4) (by omega)
    rw [show p * 4 = p * 4 + 0 from rfl, procF_at n p 0 h1 h2 (by omega)] at this
    exact this
  obtain ⟨k, c1⟩ : ∃ k : Int, w.cell? ⟨g, p * 4 + 1, none⟩ = some (.int .i64 k) := by
    have := h.cell (p * 4 + 1) (by omega)
    rw [procF_at n p 1 h1 h2 (by omega)] at this
    exact ⟨_, this⟩
  have h16 : (p : Int) < 17 := by omega
  clear h
  go_enter Tryz.func115, Tryz.ntmps115
  go_wp2_with fail
  refine (HN.out w).mono ?_
  rintro e w' ⟨rfl, rfl⟩
  go_wp2_with fail
  go_ret2
  exact ⟨⟨_, rfl⟩, rfl⟩
end Go.Proofs.YthmojneobkaolaaGreatDoor
