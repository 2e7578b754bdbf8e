/- Small functions of the laws. -/
import Derived.Test.YthmojneobkaolaaGreatDoorTpCatch
import Derived.Test.YthmojneobkaolaaGreatDoorIntsV
namespace Go.Proofs.YthmojneobkaolaaGreatDoor
open Go.RowKit
set_option linter.unusedVariables false

theorem rest_ok (n : Int) (h1 : -9223372036854775808 ≤ n) (h2 : n ≤ 9223372036854775807) (w : World) : Calls Tryz.prog 11 #[.int .i64 n, .int .i64 30] w fun e w' => (∃ r : Nat, r < 30 ∧ e = .returned (.int .i64 (r : Int))) ∧ w = w' := by
  have hlo : -30 < n.tmod 30 := by
    have := Int.lt_tmod_of_pos n (show (0 : Int) < 30 by omega); omega
  have hhi : n.tmod 30 < 30 := Int.tmod_lt_of_pos n (by omega)
  have e1 : wrap64 (n.tmod 30) = n.tmod 30 := by unfold wrap64; omega
  by_cases hneg : n.tmod 30 < 0
  · have e2 : wrap64 (n.tmod 30 + 30) = n.tmod 30 + 30 := by unfold wrap64; omega
    go_enter Tryz.func11, Tryz.ntmps11
    go_wp2_with fail
    go_ret
    exact ⟨⟨(n.tmod 30 + 30).toNat, by omega, congrArg (fun x => Ending.returned (.int .i64 x)) (show n.tmod 30 + 30 = ((n.tmod 30 + 30).toNat : Int) by omega)⟩, rfl⟩
  · go_enter Tryz.func11, Tryz.ntmps11
    go_wp2_with fail
    go_ret
    exact ⟨⟨(n.tmod 30).toNat, by omega, congrArg (fun x => Ending.returned (.int .i64 x)) (show n.tmod 30 = ((n.tmod 30).toNat : Int) by omega)⟩, rfl⟩
theorem within_ok (n : Int) (h1 : -9223372036854775808 ≤ n) (h2 : n ≤ 9223372036854775807) (w : World) : Calls Tryz.prog 5 #[.int .i64 n, .int .i64 30] w fun e w' => (∃ r : Nat, r < 30 ∧ e = .returned (.int .i64 (r : Int))) ∧ w = w' := by
  have H := hide (rest_ok n h1 h2)
  go_enter Tryz.func5, Tryz.ntmps5
  go_wp2_with fail
  refine (H.out w).mono ?_
  rintro e w' ⟨⟨r, hr, rfl⟩, rfl⟩
  go_wp2_with fail
  go_ret
  exact ⟨⟨r, hr, rfl⟩, rfl⟩
theorem isbad_ok (w : World) : Calls Tryz.prog 19 #[.int .i64 0] w fun e w' => e = .returned (.bool false) ∧ w = w' := by
  go_enter Tryz.func19, Tryz.ntmps19
  go_wp2_with fail
  go_ret
  exact ⟨rfl, rfl⟩
def ErRel (v : Value) (n : Nat) (w0 wr : World) : Prop := ∃ i : Nat, v = .int .i64 (i : Int) ∧ i ≤ n ∧ w0 = wr
def zerosV (n : Nat) : List Value := intsV (List.replicate n 0)
set_option maxHeartbeats 8000000 in
theorem errs_index (B : Nat) (g off n c : Nat) (w : World) (h : Reads w B 1 (some ⟨g, off, none⟩) n (zerosV n)) (hn : n ≤ 10) :
    Calls Tryz.prog 43 #[.slice (some ⟨g, off, none⟩) n c, .func (.func 19) #[] #[]] w fun e w' => e = .returned (.int .i64 (-1)) ∧ w = w' := by
  have H := hide h
  have HB := hide isbad_ok
  clear h
  go_enter Tryz.func43, Tryz.ntmps43
  go_upto_region 2 with fail
  go_loopw [8] (ErRel · n w) (fun v _ => n - (intOf v).toNat)
  case atStart => exact ⟨0, rfl, Nat.zero_le _, rfl⟩
  case round =>
    obtain ⟨i, rfl, hi, rfl⟩ := hrel
    by_cases hlt : i < n
    · have hlt' : (i : Int) < (n : Int) := by omega
      have k0 : w.cell? ⟨g, off + i, none⟩ = some (.int .i64 0) := by
        have := cells_ints H.out i hlt
        rw [List.getD_eq_getElem?_getD, List.getElem?_replicate, if_pos hlt] at this
        exact this
      go_wp2_with fail
      refine (HB.out w).mono ?_
      rintro e w' ⟨rfl, rfl⟩
      go_wp2_with fail
      go_roundw
      case rel => exact ⟨i + 1, by first | rfl | go_num, by omega, rfl⟩
      case measure => simp [intOf]; omega
    · obtain rfl : i = n := by omega
      go_wp2_with fail
      go_ret
      exact ⟨rfl, rfl⟩
theorem errs_contains (B : Nat) (g off n c : Nat) (w : World) (h : Reads w B 1 (some ⟨g, off, none⟩) n (zerosV n)) (hn : n ≤ 10) :
    Calls Tryz.prog 18 #[.slice (some ⟨g, off, none⟩) n c, .func (.func 19) #[] #[]] w fun e w' => e = .returned (.bool false) ∧ w = w' := by
  have H := hide (errs_index B g off n c w h hn)
  clear h
  go_enter Tryz.func18, Tryz.ntmps18
  go_wp2_with fail
  refine H.out.mono ?_
  rintro e w' ⟨rfl, rfl⟩
  go_wp2_with fail
  go_ret
  exact ⟨rfl, rfl⟩
theorem good_ok (B : Nat) (g off n c : Nat) (w : World) (h : Reads w B 1 (some ⟨g, off, none⟩) n (zerosV n)) (hn : n ≤ 10) :
    Calls Tryz.prog 7 #[.slice (some ⟨g, off, none⟩) n c] w fun e w' => e = .returned (.bool true) ∧ w = w' := by
  have H := hide (errs_contains B g off n c w h hn)
  clear h
  go_enter Tryz.func7, Tryz.ntmps7
  go_wp2_with fail
  refine H.out.mono ?_
  rintro e w' ⟨rfl, rfl⟩
  go_wp2_with fail
  go_ret
  exact ⟨rfl, rfl⟩
end Go.Proofs.YthmojneobkaolaaGreatDoor
