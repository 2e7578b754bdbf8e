/- The contracts of code.row, code.later, code.Number, code.Fields, asm.near (printed by gen_code.py). -/
import Derived.Test.YtikbfmjhmjkkgaaDoorAmMem
namespace Go.Proofs.YtikbfmjhmjkkgaaDoor
open Go.RowKit
set_option linter.unusedVariables false

def RowIs (op : Int) (s : Bs) (f : Nat) (w : World) : Prop := Calls Tryd.prog 38 #[.int .i64 op] w fun e w' => e = .returned (.tuple #[.string (str s), .int .i64 (f : Int)]) ∧ w' = w
set_option maxRecDepth 100000 in
theorem row_1 (w : World) : RowIs 1 [104, 97, 108, 116] 0 w := by
  have h : Calls Tryd.prog 38 #[.int .i64 1] w fun e w' => e = .returned (.tuple #[.string ⟨#[104, 97, 108, 116]⟩, .int .i64 0]) ∧ w' = w := by
    go_enter Tryd.func38, Tryd.ntmps38
    go_wp2_with fail
    go_ret2
    exact ⟨rfl, rfl⟩
  exact h
set_option maxRecDepth 100000 in
theorem row_2 (w : World) : RowIs 2 [115, 101, 116] 5 w := by
  have h : Calls Tryd.prog 38 #[.int .i64 2] w fun e w' => e = .returned (.tuple #[.string ⟨#[115, 101, 116]⟩, .int .i64 5]) ∧ w' = w := by
    go_enter Tryd.func38, Tryd.ntmps38
    go_wp2_with fail
    go_ret2
    exact ⟨rfl, rfl⟩
  exact h
set_option maxRecDepth 100000 in
theorem row_3 (w : World) : RowIs 3 [104, 105, 103, 104] 5 w := by
  have h : Calls Tryd.prog 38 #[.int .i64 3] w fun e w' => e = .returned (.tuple #[.string ⟨#[104, 105, 103, 104]⟩, .int .i64 5]) ∧ w' = w := by
    go_enter Tryd.func38, Tryd.ntmps38
    go_wp2_with fail
    go_ret2
    exact ⟨rfl, rfl⟩
  exact h
set_option maxRecDepth 100000 in
theorem row_4 (w : World) : RowIs 4 [109, 111, 118, 101] 3 w := by
  have h : Calls Tryd.prog 38 #[.int .i64 4] w fun e w' => e = .returned (.tuple #[.string ⟨#[109, 111, 118, 101]⟩, .int .i64 3]) ∧ w' = w := by
    go_enter Tryd.func38, Tryd.ntmps38
    go_wp2_with fail
    go_ret2
    exact ⟨rfl, rfl⟩
  exact h
set_option maxRecDepth 100000 in
theorem row_5 (w : World) : RowIs 5 [97, 100, 100] 3 w := by
  have h : Calls Tryd.prog 38 #[.int .i64 5] w fun e w' => e = .returned (.tuple #[.string ⟨#[97, 100, 100]⟩, .int .i64 3]) ∧ w' = w := by
    go_enter Tryd.func38, Tryd.ntmps38
    go_wp2_with fail
    go_ret2
    exact ⟨rfl, rfl⟩
  exact h
set_option maxRecDepth 100000 in
theorem row_6 (w : World) : RowIs 6 [115, 117, 98] 3 w := by
  have h : Calls Tryd.prog 38 #[.int .i64 6] w fun e w' => e = .returned (.tuple #[.string ⟨#[115, 117, 98]⟩, .int .i64 3]) ∧ w' = w := by
    go_enter Tryd.func38, Tryd.ntmps38
    go_wp2_with fail
    go_ret2
    exact ⟨rfl, rfl⟩
  exact h
set_option maxRecDepth 100000 in
theorem row_7 (w : World) : RowIs 7 [109, 117, 108] 3 w := by
  have h : Calls Tryd.prog 38 #[.int .i64 7] w fun e w' => e = .returned (.tuple #[.string ⟨#[109, 117, 108]⟩, .int .i64 3]) ∧ w' = w := by
    go_enter Tryd.func38, Tryd.ntmps38
    go_wp2_with fail
    go_ret2
    exact ⟨rfl, rfl⟩
  exact h
set_option maxRecDepth 100000 in
theorem row_8 (w : World) : RowIs 8 [100, 105, 118] 3 w := by
  have h : Calls Tryd.prog 38 #[.int .i64 8] w fun e w' => e = .returned (.tuple #[.string ⟨#[100, 105, 118]⟩, .int .i64 3]) ∧ w' = w := by
    go_enter Tryd.func38, Tryd.ntmps38
    go_wp2_with fail
    go_ret2
    exact ⟨rfl, rfl⟩
  exact h
set_option maxRecDepth 100000 in
theorem row_9 (w : World) : RowIs 9 [97, 110, 100] 3 w := by
  have h : Calls Tryd.prog 38 #[.int .i64 9] w fun e w' => e = .returned (.tuple #[.string ⟨#[97, 110, 100]⟩, .int .i64 3]) ∧ w' = w := by
    go_enter Tryd.func38, Tryd.ntmps38
    go_wp2_with fail
    go_ret2
    exact ⟨rfl, rfl⟩
  exact h
set_option maxRecDepth 100000 in
theorem row_10 (w : World) : RowIs 10 [111, 114] 3 w := by
  have h : Calls Tryd.prog 38 #[.int .i64 10] w fun e w' => e = .returned (.tuple #[.string ⟨#[111, 114]⟩, .int .i64 3]) ∧ w' = w := by
    go_enter Tryd.func38, Tryd.ntmps38
    go_wp2_with fail
    go_ret2
    exact ⟨rfl, rfl⟩
  exact h
set_option maxRecDepth 100000 in
theorem row_11 (w : World) : RowIs 11 [120, 111, 114] 3 w := by
  have h : Calls Tryd.prog 38 #[.int .i64 11] w fun e w' => e = .returned (.tuple #[.string ⟨#[120, 111, 114]⟩, .int .i64 3]) ∧ w' = w := by
    go_enter Tryd.func38, Tryd.ntmps38
    go_wp2_with fail
    go_ret2
    exact ⟨rfl, rfl⟩
  exact h
set_option maxRecDepth 100000 in
theorem row_12 (w : World) : RowIs 12 [108, 101, 102, 116] 3 w := by
  have h : Calls Tryd.prog 38 #[.int .i64 12] w fun e w' => e = .returned (.tuple #[.string ⟨#[108, 101, 102, 116]⟩, .int .i64 3]) ∧ w' = w := by
    go_enter Tryd.func38, Tryd.ntmps38
    go_wp2_with fail
    go_ret2
    exact ⟨rfl, rfl⟩
  exact h
set_option maxRecDepth 100000 in
theorem row_13 (w : World) : RowIs 13 [114, 105, 103, 104, 116] 3 w := by
  have h : Calls Tryd.prog 38 #[.int .i64 13] w fun e w' => e = .returned (.tuple #[.string ⟨#[114, 105, 103, 104, 116]⟩, .int .i64 3]) ∧ w' = w := by
    go_enter Tryd.func38, Tryd.ntmps38
    go_wp2_with fail
    go_ret2
    exact ⟨rfl, rfl⟩
  exact h
set_option maxRecDepth 100000 in
theorem later_14 (w : World) : Calls Tryd.prog 58 #[.int .i64 14] w fun e w' => e = .returned (.tuple #[.string ⟨#[112, 108, 117, 115]⟩, .int .i64 7]) ∧ w' = w := by
  go_enter Tryd.func58, Tryd.ntmps58
  go_wp2_with fail
  go_ret2
  exact ⟨rfl, rfl⟩
set_option maxRecDepth 100000 in
theorem row_14 (w : World) : RowIs 14 [112, 108, 117, 115] 7 w := by
  have h : Calls Tryd.prog 38 #[.int .i64 14] w fun e w' => e = .returned (.tuple #[.string ⟨#[112, 108, 117, 115]⟩, .int .i64 7]) ∧ w' = w := by
    go_enter Tryd.func38, Tryd.ntmps38
    go_wp2_with fail
    refine (later_14 w).mono ?_
    rintro e w' ⟨rfl, rfl⟩
    go_wp2_with fail
    go_ret2
    exact ⟨rfl, rfl⟩
  exact h
set_option maxRecDepth 100000 in
theorem later_15 (w : World) : Calls Tryd.prog 58 #[.int .i64 15] w fun e w' => e = .returned (.tuple #[.string ⟨#[108, 111, 97, 100]⟩, .int .i64 7]) ∧ w' = w := by
  go_enter Tryd.func58, Tryd.ntmps58
  go_wp2_with fail
  go_ret2
  exact ⟨rfl, rfl⟩
set_option maxRecDepth 100000 in
theorem row_15 (w : World) : RowIs 15 [108, 111, 97, 100] 7 w := by
  have h : Calls Tryd.prog 38 #[.int .i64 15] w fun e w' => e = .returned (.tuple #[.string ⟨#[108, 111, 97, 100]⟩, .int .i64 7]) ∧ w' = w := by
    go_enter Tryd.func38, Tryd.ntmps38
    go_wp2_with fail
    refine (later_15 w).mono ?_
    rintro e w' ⟨rfl, rfl⟩
    go_wp2_with fail
    go_ret2
    exact ⟨rfl, rfl⟩
  exact h
set_option maxRecDepth 100000 in
theorem later_16 (w : World) : Calls Tryd.prog 58 #[.int .i64 16] w fun e w' => e = .returned (.tuple #[.string ⟨#[108, 111, 97, 100, 98]⟩, .int .i64 7]) ∧ w' = w := by
  go_enter Tryd.func58, Tryd.ntmps58
  go_wp2_with fail
  go_ret2
  exact ⟨rfl, rfl⟩
set_option maxRecDepth 100000 in
theorem row_16 (w : World) : RowIs 16 [108, 111, 97, 100, 98] 7 w := by
  have h : Calls Tryd.prog 38 #[.int .i64 16] w fun e w' => e = .returned (.tuple #[.string ⟨#[108, 111, 97, 100, 98]⟩, .int .i64 7]) ∧ w' = w := by
    go_enter Tryd.func38, Tryd.ntmps38
    go_wp2_with fail
    refine (later_16 w).mono ?_
    rintro e w' ⟨rfl, rfl⟩
    go_wp2_with fail
    go_ret2
    exact ⟨rfl, rfl⟩
  exact h
set_option maxRecDepth 100000 in
theorem later_17 (w : World) : Calls Tryd.prog 58 #[.int .i64 17] w fun e w' => e = .returned (.tuple #[.string ⟨#[115, 116, 111, 114, 101]⟩, .int .i64 7]) ∧ w' = w := by
  go_enter Tryd.func58, Tryd.ntmps58
  go_wp2_with fail
  go_ret2
  exact ⟨rfl, rfl⟩
set_option maxRecDepth 100000 in
theorem row_17 (w : World) : RowIs 17 [115, 116, 111, 114, 101] 7 w := by
  have h : Calls Tryd.prog 38 #[.int .i64 17] w fun e w' => e = .returned (.tuple #[.string ⟨#[115, 116, 111, 114, 101]⟩, .int .i64 7]) ∧ w' = w := by
    go_enter Tryd.func38, Tryd.ntmps38
    go_wp2_with fail
    refine (later_17 w).mono ?_
    rintro e w' ⟨rfl, rfl⟩
    go_wp2_with fail
    go_ret2
    exact ⟨rfl, rfl⟩
  exact h
set_option maxRecDepth 100000 in
theorem later_18 (w : World) : Calls Tryd.prog 58 #[.int .i64 18] w fun e w' => e = .returned (.tuple #[.string ⟨#[115, 116, 111, 114, 101, 98]⟩, .int .i64 7]) ∧ w' = w := by
  go_enter Tryd.func58, Tryd.ntmps58
  go_wp2_with fail
  go_ret2
  exact ⟨rfl, rfl⟩
set_option maxRecDepth 100000 in
theorem row_18 (w : World) : RowIs 18 [115, 116, 111, 114, 101, 98] 7 w := by
  have h : Calls Tryd.prog 38 #[.int .i64 18] w fun e w' => e = .returned (.tuple #[.string ⟨#[115, 116, 111, 114, 101, 98]⟩, .int .i64 7]) ∧ w' = w := by
    go_enter Tryd.func38, Tryd.ntmps38
    go_wp2_with fail
    refine (later_18 w).mono ?_
    rintro e w' ⟨rfl, rfl⟩
    go_wp2_with fail
    go_ret2
    exact ⟨rfl, rfl⟩
  exact h
set_option maxRecDepth 100000 in
theorem later_19 (w : World) : Calls Tryd.prog 58 #[.int .i64 19] w fun e w' => e = .returned (.tuple #[.string ⟨#[106, 117, 109, 112]⟩, .int .i64 4]) ∧ w' = w := by
  go_enter Tryd.func58, Tryd.ntmps58
  go_wp2_with fail
  go_ret2
  exact ⟨rfl, rfl⟩
set_option maxRecDepth 100000 in
theorem row_19 (w : World) : RowIs 19 [106, 117, 109, 112] 4 w := by
  have h : Calls Tryd.prog 38 #[.int .i64 19] w fun e w' => e = .returned (.tuple #[.string ⟨#[106, 117, 109, 112]⟩, .int .i64 4]) ∧ w' = w := by
    go_enter Tryd.func38, Tryd.ntmps38
    go_wp2_with fail
    refine (later_19 w).mono ?_
    rintro e w' ⟨rfl, rfl⟩
    go_wp2_with fail
    go_ret2
    exact ⟨rfl, rfl⟩
  exact h
set_option maxRecDepth 100000 in
theorem later_20 (w : World) : Calls Tryd.prog 58 #[.int .i64 20] w fun e w' => e = .returned (.tuple #[.string ⟨#[122, 101, 114, 111]⟩, .int .i64 5]) ∧ w' = w := by
  go_enter Tryd.func58, Tryd.ntmps58
  go_wp2_with fail
  go_ret2
  exact ⟨rfl, rfl⟩
set_option maxRecDepth 100000 in
theorem row_20 (w : World) : RowIs 20 [122, 101, 114, 111] 5 w := by
  have h : Calls Tryd.prog 38 #[.int .i64 20] w fun e w' => e = .returned (.tuple #[.string ⟨#[122, 101, 114, 111]⟩, .int .i64 5]) ∧ w' = w := by
    go_enter Tryd.func38, Tryd.ntmps38
    go_wp2_with fail
    refine (later_20 w).mono ?_
    rintro e w' ⟨rfl, rfl⟩
    go_wp2_with fail
    go_ret2
    exact ⟨rfl, rfl⟩
  exact h
set_option maxRecDepth 100000 in
theorem later_21 (w : World) : Calls Tryd.prog 58 #[.int .i64 21] w fun e w' => e = .returned (.tuple #[.string ⟨#[108, 101, 115, 115]⟩, .int .i64 7]) ∧ w' = w := by
  go_enter Tryd.func58, Tryd.ntmps58
  go_wp2_with fail
  go_ret2
  exact ⟨rfl, rfl⟩
set_option maxRecDepth 100000 in
theorem row_21 (w : World) : RowIs 21 [108, 101, 115, 115] 7 w := by
  have h : Calls Tryd.prog 38 #[.int .i64 21] w fun e w' => e = .returned (.tuple #[.string ⟨#[108, 101, 115, 115]⟩, .int .i64 7]) ∧ w' = w := by
    go_enter Tryd.func38, Tryd.ntmps38
    go_wp2_with fail
    refine (later_21 w).mono ?_
    rintro e w' ⟨rfl, rfl⟩
    go_wp2_with fail
    go_ret2
    exact ⟨rfl, rfl⟩
  exact h
set_option maxRecDepth 100000 in
theorem later_22 (w : World) : Calls Tryd.prog 58 #[.int .i64 22] w fun e w' => e = .returned (.tuple #[.string ⟨#[99, 97, 108, 108]⟩, .int .i64 5]) ∧ w' = w := by
  go_enter Tryd.func58, Tryd.ntmps58
  go_wp2_with fail
  go_ret2
  exact ⟨rfl, rfl⟩
set_option maxRecDepth 100000 in
theorem row_22 (w : World) : RowIs 22 [99, 97, 108, 108] 5 w := by
  have h : Calls Tryd.prog 38 #[.int .i64 22] w fun e w' => e = .returned (.tuple #[.string ⟨#[99, 97, 108, 108]⟩, .int .i64 5]) ∧ w' = w := by
    go_enter Tryd.func38, Tryd.ntmps38
    go_wp2_with fail
    refine (later_22 w).mono ?_
    rintro e w' ⟨rfl, rfl⟩
    go_wp2_with fail
    go_ret2
    exact ⟨rfl, rfl⟩
  exact h
set_option maxRecDepth 100000 in
theorem later_23 (w : World) : Calls Tryd.prog 58 #[.int .i64 23] w fun e w' => e = .returned (.tuple #[.string ⟨#[98, 97, 99, 107]⟩, .int .i64 1]) ∧ w' = w := by
  go_enter Tryd.func58, Tryd.ntmps58
  go_wp2_with fail
  go_ret2
  exact ⟨rfl, rfl⟩
set_option maxRecDepth 100000 in
theorem row_23 (w : World) : RowIs 23 [98, 97, 99, 107] 1 w := by
  have h : Calls Tryd.prog 38 #[.int .i64 23] w fun e w' => e = .returned (.tuple #[.string ⟨#[98, 97, 99, 107]⟩, .int .i64 1]) ∧ w' = w := by
    go_enter Tryd.func38, Tryd.ntmps38
    go_wp2_with fail
    refine (later_23 w).mono ?_
    rintro e w' ⟨rfl, rfl⟩
    go_wp2_with fail
    go_ret2
    exact ⟨rfl, rfl⟩
  exact h
set_option maxRecDepth 100000 in
theorem later_24 (w : World) : Calls Tryd.prog 58 #[.int .i64 24] w fun e w' => e = .returned (.tuple #[.string ⟨#[115, 121, 115]⟩, .int .i64 0]) ∧ w' = w := by
  go_enter Tryd.func58, Tryd.ntmps58
  go_wp2_with fail
  go_ret2
  exact ⟨rfl, rfl⟩
set_option maxRecDepth 100000 in
theorem row_24 (w : World) : RowIs 24 [115, 121, 115] 0 w := by
  have h : Calls Tryd.prog 38 #[.int .i64 24] w fun e w' => e = .returned (.tuple #[.string ⟨#[115, 121, 115]⟩, .int .i64 0]) ∧ w' = w := by
    go_enter Tryd.func38, Tryd.ntmps38
    go_wp2_with fail
    refine (later_24 w).mono ?_
    rintro e w' ⟨rfl, rfl⟩
    go_wp2_with fail
    go_ret2
    exact ⟨rfl, rfl⟩
  exact h
set_option maxRecDepth 100000 in
theorem later_25 (w : World) : Calls Tryd.prog 58 #[.int .i64 25] w fun e w' => e = .returned (.tuple #[.string ⟨#[115, 119, 97, 112]⟩, .int .i64 7]) ∧ w' = w := by
  go_enter Tryd.func58, Tryd.ntmps58
  go_wp2_with fail
  go_ret2
  exact ⟨rfl, rfl⟩
set_option maxRecDepth 100000 in
theorem row_25 (w : World) : RowIs 25 [115, 119, 97, 112] 7 w := by
  have h : Calls Tryd.prog 38 #[.int .i64 25] w fun e w' => e = .returned (.tuple #[.string ⟨#[115, 119, 97, 112]⟩, .int .i64 7]) ∧ w' = w := by
    go_enter Tryd.func38, Tryd.ntmps38
    go_wp2_with fail
    refine (later_25 w).mono ?_
    rintro e w' ⟨rfl, rfl⟩
    go_wp2_with fail
    go_ret2
    exact ⟨rfl, rfl⟩
  exact h
set_option maxRecDepth 100000 in
theorem later_26 (w : World) : Calls Tryd.prog 58 #[.int .i64 26] w fun e w' => e = .returned (.tuple #[.string ⟨#[104, 111, 109, 101]⟩, .int .i64 1]) ∧ w' = w := by
  go_enter Tryd.func58, Tryd.ntmps58
  go_wp2_with fail
  go_ret2
  exact ⟨rfl, rfl⟩
set_option maxRecDepth 100000 in
theorem row_26 (w : World) : RowIs 26 [104, 111, 109, 101] 1 w := by
  have h : Calls Tryd.prog 38 #[.int .i64 26] w fun e w' => e = .returned (.tuple #[.string ⟨#[104, 111, 109, 101]⟩, .int .i64 1]) ∧ w' = w := by
    go_enter Tryd.func38, Tryd.ntmps38
    go_wp2_with fail
    refine (later_26 w).mono ?_
    rintro e w' ⟨rfl, rfl⟩
    go_wp2_with fail
    go_ret2
    exact ⟨rfl, rfl⟩
  exact h
set_option maxRecDepth 100000 in
theorem row_out (op : Nat) (h : op = 0 ∨ 27 ≤ op) (w : World) : RowIs (op : Int) [] 0 w := by
  have u1 : ((op : Int) == 1) = false := by simp; omega
  have u2 : ((op : Int) == 2) = false := by simp; omega
  have u3 : ((op : Int) == 3) = false := by simp; omega
  have u4 : ((op : Int) == 4) = false := by simp; omega
  have u5 : ((op : Int) == 5) = false := by simp; omega
  have u6 : ((op : Int) == 6) = false := by simp; omega
  have u7 : ((op : Int) == 7) = false := by simp; omega
  have u8 : ((op : Int) == 8) = false := by simp; omega
  have u9 : ((op : Int) == 9) = false := by simp; omega
  have u10 : ((op : Int) == 10) = false := by simp; omega
  have u11 : ((op : Int) == 11) = false := by simp; omega
  have u12 : ((op : Int) == 12) = false := by simp; omega
  have u13 : ((op : Int) == 13) = false := by simp; omega
  have u14 : ((op : Int) == 14) = false := by simp; omega
  have u15 : ((op : Int) == 15) = false := by simp; omega
  have u16 : ((op : Int) == 16) = false := by simp; omega
  have u17 : ((op : Int) == 17) = false := by simp; omega
  have u18 : ((op : Int) == 18) = false := by simp; omega
  have u19 : ((op : Int) == 19) = false := by simp; omega
  have u20 : ((op : Int) == 20) = false := by simp; omega
  have u21 : ((op : Int) == 21) = false := by simp; omega
  have u22 : ((op : Int) == 22) = false := by simp; omega
  have u23 : ((op : Int) == 23) = false := by simp; omega
  have u24 : ((op : Int) == 24) = false := by simp; omega
  have u25 : ((op : Int) == 25) = false := by simp; omega
  have u26 : ((op : Int) == 26) = false := by simp; omega
  have h : Calls Tryd.prog 38 #[.int .i64 (op : Int)] w fun e w' => e = .returned (.tuple #[.string ⟨#[]⟩, .int .i64 0]) ∧ w' = w := by
    have hl : Calls Tryd.prog 58 #[.int .i64 (op : Int)] w fun e w' => e = .returned (.tuple #[.string ⟨#[]⟩, .int .i64 0]) ∧ w' = w := by
      clear h
      generalize (op : Int) = z at *
      go_enter Tryd.func58, Tryd.ntmps58
      go_wp2_with fail
      go_ret2
      exact ⟨rfl, rfl⟩
    have HL := hide hl
    clear h hl
    generalize (op : Int) = z at *
    go_enter Tryd.func38, Tryd.ntmps38
    go_wp2_with fail
    refine HL.out.mono ?_
    rintro e w' ⟨rfl, rfl⟩
    go_wp2_with fail
    go_ret2
    exact ⟨rfl, rfl⟩
  exact h
theorem row_at (op : Nat) (w : World) : RowIs (op : Int) (rowN op).1 (rowN op).2 w := by
  by_cases h : op = 0 ∨ 27 ≤ op
  · have e : rowN op = ([], 0) := by
      unfold rowN
      rcases h with h | h
      · rw [if_pos h]
      · rw [if_neg (by omega), List.getD_eq_getElem?_getD, List.getElem?_eq_none (by show 26 ≤ op - 1; omega)]; rfl
    rw [e]
    exact row_out op h w
  · rcases (by omega : op = 1 ∨ op = 2 ∨ op = 3 ∨ op = 4 ∨ op = 5 ∨ op = 6 ∨ op = 7 ∨ op = 8 ∨ op = 9 ∨ op = 10 ∨ op = 11 ∨ op = 12 ∨ op = 13 ∨ op = 14 ∨ op = 15 ∨ op = 16 ∨ op = 17 ∨ op = 18 ∨ op = 19 ∨ op = 20 ∨ op = 21 ∨ op = 22 ∨ op = 23 ∨ op = 24 ∨ op = 25 ∨ op = 26) with rfl | rfl | rfl | rfl | rfl | rfl | rfl | rfl | rfl | rfl | rfl | rfl | rfl | rfl | rfl | rfl | rfl | rfl | rfl | rfl | rfl | rfl | rfl | rfl | rfl | rfl
    · exact row_1 w
    · exact row_2 w
    · exact row_3 w
    · exact row_4 w
    · exact row_5 w
    · exact row_6 w
    · exact row_7 w
    · exact row_8 w
    · exact row_9 w
    · exact row_10 w
    · exact row_11 w
    · exact row_12 w
    · exact row_13 w
    · exact row_14 w
    · exact row_15 w
    · exact row_16 w
    · exact row_17 w
    · exact row_18 w
    · exact row_19 w
    · exact row_20 w
    · exact row_21 w
    · exact row_22 w
    · exact row_23 w
    · exact row_24 w
    · exact row_25 w
    · exact row_26 w
end Go.Proofs.YtikbfmjhmjkkgaaDoor

