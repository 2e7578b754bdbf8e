/- The contract of ringkeep4.itoa below 1000. -/
import Derived.Test.YtjmonkacijncbaaGreatDoorItoa
import Derived.Lib.ItoaNum
namespace Go.Proofs.YtjmonkacijncbaaGreatDoor
open Go.RowKit
set_option linter.unusedVariables false

theorem dec_one (k : Nat) (h : k < 10) : Lib.decDigits k = digit k := by
  rw [Lib.decDigits_one h]
  rcases (by omega : k = 0 ∨ k = 1 ∨ k = 2 ∨ k = 3 ∨ k = 4 ∨ k = 5 ∨ k = 6 ∨ k = 7 ∨ k = 8 ∨ k = 9) with rfl | rfl | rfl | rfl | rfl | rfl | rfl | rfl | rfl | rfl <;> rfl
theorem dec_more (n : Nat) (h : 10 ≤ n) : Lib.decDigits n = Lib.decDigits (n / 10) ++ digit (n % 10) := by
  rw [Lib.decDigits, dif_neg (by omega), ← dec_one _ (Nat.mod_lt _ (by decide)), Lib.decDigits_one (Nat.mod_lt _ (by decide))]
set_option maxRecDepth 100000 in
set_option maxHeartbeats 2000000 in
theorem itoa_step (n : Nat) (h10 : 10 ≤ n) (h : n ≤ 1000000) (ih : ∀ W, Calls Tryz.prog 27 #[.int .i64 ((n / 10 : Nat) : Int)] W fun e w' => e = .returned (.string (str (Lib.decDigits (n / 10)))) ∧ Ext W w') (w : World) (hd : (Lib.decDigits (n / 10)).length ≤ 100) :
    Calls Tryz.prog 27 #[.int .i64 (n : Int)] w fun e w' => e = .returned (.string (str (Lib.decDigits n))) ∧ Ext w w' := by
  have HI := hide ih
  have HD := hide (dec_more n h10)
  have HT := hide (fun W => itoa_digit (n % 10) (Nat.mod_lt _ (by decide)) W)
  have h1 : (n : Int).tdiv 10 = ((n / 10 : Nat) : Int) := by rw [Int.tdiv_eq_ediv_of_nonneg (by omega)]; omega
  have h2 : (n : Int).tmod 10 = ((n % 10 : Nat) : Int) := by rw [Int.tmod_eq_emod_of_nonneg (by omega)]; omega
  have y1 : -9223372036854775808 ≤ (n : Int).tdiv 10 ∧ (n : Int).tdiv 10 ≤ 9223372036854775807 := by rw [h1]; omega
  have y2 : -9223372036854775808 ≤ (n : Int).tmod 10 ∧ (n : Int).tmod 10 ≤ 9223372036854775807 := by rw [h2]; omega
  have H1 := hide (show (n : Int) / 10 = ((n / 10 : Nat) : Int) by omega)
  have H2 := hide (show (n : Int) % 10 = ((n % 10 : Nat) : Int) by omega)
  clear h1 h2
  have hs : str (Lib.decDigits (n / 10)) ++ str (digit (n % 10)) = str (Lib.decDigits n) := by rw [str_append, ← dec_more n h10]
  have z1 : (str (Lib.decDigits (n / 10))).size ≤ 100 := by rw [str_size]; exact hd
  have z2 : (str (digit (n % 10))).size = 1 := str_size _
  clear ih hd
  go_enter Tryz.func27, Tryz.ntmps27
  go_wp2_with fail
  rw [H1.out]
  refine (HI.out w).mono ?_
  rintro e w1 ⟨rfl, hx1⟩
  have HX1 := hide hx1
  clear hx1
  go_wp2_with fail
  rw [H2.out]
  refine (HT.out w1).mono ?_
  rintro e w2 ⟨rfl, hx2⟩
  have HX2 := hide (HX1.out.trans hx2)
  clear hx2
  generalize str (digit (n % 10)) = S2 at *
  generalize str (Lib.decDigits (n / 10)) = S1 at *
  go_wp2_with fail
  go_ret
  exact ⟨rfl, HX2.out⟩
theorem itoa_1 (n : Nat) (h : n < 10) (w : World) : Calls Tryz.prog 27 #[.int .i64 (n : Int)] w fun e w' => e = .returned (.string (str (Lib.decDigits n))) ∧ Ext w w' := by
  rw [dec_one n h]
  exact itoa_digit n h w
theorem dec_len (n : Nat) (h : n < 1000) : (Lib.decDigits n).length ≤ 3 := by
  by_cases h1 : n < 10
  · rw [Lib.decDigits_one h1]; simp
  · rw [dec_more n (by omega)]
    by_cases h2 : n < 100
    · rw [Lib.decDigits_one (by omega)]; simp [digit]
    · rw [dec_more (n / 10) (by omega), Lib.decDigits_one (by omega)]; simp [digit]
theorem itoa_2 (n : Nat) (h : n < 100) (w : World) : Calls Tryz.prog 27 #[.int .i64 (n : Int)] w fun e w' => e = .returned (.string (str (Lib.decDigits n))) ∧ Ext w w' := by
  by_cases h1 : n < 10
  · exact itoa_1 n h1 w
  · exact itoa_step n (by omega) (by omega) (fun W => itoa_1 (n / 10) (by omega) W) w (Nat.le_trans (dec_len _ (by omega)) (by decide))
theorem itoa_3 (n : Nat) (h : n < 1000) (w : World) : Calls Tryz.prog 27 #[.int .i64 (n : Int)] w fun e w' => e = .returned (.string (str (Lib.decDigits n))) ∧ Ext w w' := by
  by_cases h1 : n < 100
  · exact itoa_2 n h1 w
  · exact itoa_step n (by omega) (by omega) (fun W => itoa_2 (n / 10) (by omega) W) w (Nat.le_trans (dec_len _ (by omega)) (by decide))
end Go.Proofs.YtjmonkacijncbaaGreatDoor
