/- The contract of code.Encode (printed by gen_enc.py). -/
import Derived.Test.YtikbfmjhmjkkgaaDoorAmCode2
namespace Go.Proofs.YtikbfmjhmjkkgaaDoor
open Go.RowKit
set_option linter.unusedVariables false

theorem emp_neE {l : Bs} (h : l ≠ []) : (str l).toList.isEmpty = false := by
  rw [Go.Lib.toList_data, str_list]
  cases l with
  | nil => exact absurd rfl h
  | cons a l => rfl
theorem bits_1 (F : Nat) (h : F ≤ 7) : bits BinOp.and IntKind.i64 (F : Int) 1 = ((F % 2 : Nat) : Int) := by
  rcases (by omega : F = 0 ∨ F = 1 ∨ F = 2 ∨ F = 3 ∨ F = 4 ∨ F = 5 ∨ F = 6 ∨ F = 7) with rfl | rfl | rfl | rfl | rfl | rfl | rfl | rfl <;> decide
theorem bits_2 (F : Nat) (h : F ≤ 7) : bits BinOp.and IntKind.i64 (F : Int) 2 = ((F / 2 % 2 * 2 : Nat) : Int) := by
  rcases (by omega : F = 0 ∨ F = 1 ∨ F = 2 ∨ F = 3 ∨ F = 4 ∨ F = 5 ∨ F = 6 ∨ F = 7) with rfl | rfl | rfl | rfl | rfl | rfl | rfl | rfl <;> decide
theorem bits_4 (F : Nat) (h : F ≤ 7) : bits BinOp.and IntKind.i64 (F : Int) 4 = ((F / 4 % 2 * 4 : Nat) : Int) := by
  rcases (by omega : F = 0 ∨ F = 1 ∨ F = 2 ∨ F = 3 ∨ F = 4 ∨ F = 5 ∨ F = 6 ∨ F = 7) with rfl | rfl | rfl | rfl | rfl | rfl | rfl | rfl <;> decide
theorem enc_bits (op a b : Nat) (c : Int) (hop : op ≤ 255) (ha : a ≤ 15) (hb : b ≤ 15) :
    bits .or .u32 (bits .or .u32 (bits .or .u32 ((op : Int) * 16777216) ((a : Int) * 1048576)) ((b : Int) * 65536)) (IntKind.u16.wrap c % 4294967296) = (opW op a b c : Int) := by
  have hk : ∀ n : Int, 0 ≤ n → n < 2 ^ 32 → IntKind.u32.wrap n = n := fun n h₀ h₁ => by rw [IntKind.wrap_u32]; omega
  have hw : IntKind.u16.wrap c % 4294967296 = c % 65536 := by rw [IntKind.wrap_u16]; omega
  rw [hw]
  rw [bits_join .u32 32 (by decide) hk 24 ((op : Int) * 16777216) ((a : Int) * 1048576) (by omega) (by omega) (by omega) (by omega) (by omega) (by omega)]
  rw [bits_join .u32 32 (by decide) hk 20 ((op : Int) * 16777216 + (a : Int) * 1048576) ((b : Int) * 65536) (by omega) (by omega) (by omega) (by omega) (by omega) (by omega)]
  rw [bits_join .u32 32 (by decide) hk 16 ((op : Int) * 16777216 + (a : Int) * 1048576 + (b : Int) * 65536) (c % 65536) (by omega) (by omega) (by omega) (by omega) (by omega) (by omega)]
  unfold opW
  omega
/-- The fields that an operation does not have are 0. -/
def encOk (op a b : Nat) (c : Int) : Prop := (rowN op).1 ≠ [] ∧ a < 8 ∧ b < 8 ∧ ((rowN op).2 % 2 = 1 ∨ a = 0) ∧ ((rowN op).2 / 2 % 2 = 1 ∨ b = 0) ∧ ((rowN op).2 / 4 % 2 = 1 ∨ c = 0)
set_option maxHeartbeats 8000000 in
set_option maxRecDepth 100000 in
theorem enc_ok (op a b : Nat) (c : Int) (hop : op ≤ 255) (hc : -32768 ≤ c ∧ c ≤ 32767) (ho : encOk op a b c) (w : World) :
    Calls Tryd.prog 36 #[.agg #[.int .i64 (op : Int), .int .i64 (a : Int), .int .i64 (b : Int), .int .i64 c]] w fun e w' => e = .returned (.tuple #[.int .u32 (opW op a b c : Int), .int .i64 0]) ∧ Ext w w' := by
  obtain ⟨hn, ha, hb, h1, h2, h4⟩ := ho
  have HV := hide (enc_bits op a b c hop (by omega) (by omega))
  have HRN := hide (emp_neE hn)
  clear hn
  have HF := hide (rowN_le op)
  have HR := hide (fun W => row_at op W)
  generalize (rowN op).1 = S at *
  generalize (rowN op).2 = F at *
  go_enter Tryd.func36, Tryd.ntmps36
  have hb0 := Blk.new w 62 #[.int .i64 (op : Int), .int .i64 (a : Int), .int .i64 (b : Int), .int .i64 c]
  have HX := hide ((Ext.refl w).alloc (.cells #[.int .i64 (op : Int), .int .i64 (a : Int), .int .i64 (b : Int), .int .i64 c] 62))
  go_upto_region 1 with fail
  generalize w.alloc (.cells #[.int .i64 (op : Int), .int .i64 (a : Int), .int .i64 (b : Int), .int .i64 c] 62) = W at *
  obtain ⟨g, hg⟩ : ∃ x, w.heap.size = x := ⟨_, rfl⟩
  rw [hg] at hb0 ⊢
  clear hg
  have c0 : W.cell? ⟨g, 0, none⟩ = some (.int .i64 (op : Int)) := hb0.cell 0
  have c1 : W.cell? ⟨g, 1, none⟩ = some (.int .i64 (a : Int)) := hb0.cell 1
  have c2 : W.cell? ⟨g, 2, none⟩ = some (.int .i64 (b : Int)) := hb0.cell 2
  have c3 : W.cell? ⟨g, 3, none⟩ = some (.int .i64 c) := hb0.cell 3
  clear hb0
  go_wp2_with fail
  refine (HR.out W).mono ?_
  rintro e w1 ⟨rfl, rfl⟩
  have t1 := HRN.out
  generalize str S = X at *
  have u1 : decide ((a : Int) < 0) = false := decide_eq_false (by omega)
  have u2 : decide ((8 : Int) ≤ (a : Int)) = false := decide_eq_false (by omega)
  have u2' : decide (8 ≤ a) = false := decide_eq_false (by omega)
  have u3 : decide ((b : Int) < 0) = false := decide_eq_false (by omega)
  have u4 : decide ((8 : Int) ≤ (b : Int)) = false := decide_eq_false (by omega)
  have u4' : decide (8 ≤ b) = false := decide_eq_false (by omega)
  have u5 : decide (c < -32768) = false := decide_eq_false (by omega)
  have u6 : decide (32767 < c) = false := decide_eq_false (by omega)
  have v1 := bits_1 F HF.out
  have v2 := bits_2 F HF.out
  have v4 := bits_4 F HF.out
  have HC := hide hc
  clear hc
  by_cases k1 : F % 2 = 1
  · rw [k1] at v1
    have x1 : bits BinOp.and IntKind.i64 (F : Int) 1 = 1 := v1
    clear v1 h1
    by_cases k2 : F / 2 % 2 = 1
    · rw [k2] at v2
      have x2 : bits BinOp.and IntKind.i64 (F : Int) 2 = 2 := v2
      clear v2 h2
      by_cases k4 : F / 4 % 2 = 1
      · rw [k4] at v4
        have x4 : bits BinOp.and IntKind.i64 (F : Int) 4 = 4 := v4
        clear v4 h4
        clear k1 k2 k4
        go_wp2_with fail
        go_ret2
        refine ⟨?_, HX.out⟩
        show Ending.returned (.tuple #[.int .u32 (bits .or .u32 (bits .or .u32 (bits .or .u32 ((op : Int) * 16777216) ((a : Int) * 1048576)) ((b : Int) * 65536)) (IntKind.u16.wrap c % 4294967296)), .int .i64 0]) = _
        rw [HV.out]
      · rw [show F / 4 % 2 = 0 by omega] at v4
        have x4 : bits BinOp.and IntKind.i64 (F : Int) 4 = 0 := v4
        obtain rfl : c = 0 := h4.resolve_left k4
        clear v4 h4
        clear k1 k2 k4
        go_wp2_with fail
        go_ret2
        refine ⟨?_, HX.out⟩
        show Ending.returned (.tuple #[.int .u32 (bits .or .u32 (bits .or .u32 (bits .or .u32 ((op : Int) * 16777216) ((a : Int) * 1048576)) ((b : Int) * 65536)) (IntKind.u16.wrap 0 % 4294967296)), .int .i64 0]) = _
        rw [HV.out]
    · rw [show F / 2 % 2 = 0 by omega] at v2
      have x2 : bits BinOp.and IntKind.i64 (F : Int) 2 = 0 := v2
      obtain rfl : b = 0 := h2.resolve_left k2
      clear v2 h2
      by_cases k4 : F / 4 % 2 = 1
      · rw [k4] at v4
        have x4 : bits BinOp.and IntKind.i64 (F : Int) 4 = 4 := v4
        clear v4 h4
        clear k1 k2 k4
        go_wp2_with fail
        go_ret2
        refine ⟨?_, HX.out⟩
        show Ending.returned (.tuple #[.int .u32 (bits .or .u32 (bits .or .u32 (bits .or .u32 ((op : Int) * 16777216) ((a : Int) * 1048576)) (((0 : Nat) : Int) * 65536)) (IntKind.u16.wrap c % 4294967296)), .int .i64 0]) = _
        rw [HV.out]
      · rw [show F / 4 % 2 = 0 by omega] at v4
        have x4 : bits BinOp.and IntKind.i64 (F : Int) 4 = 0 := v4
        obtain rfl : c = 0 := h4.resolve_left k4
        clear v4 h4
        clear k1 k2 k4
        go_wp2_with fail
        go_ret2
        refine ⟨?_, HX.out⟩
        show Ending.returned (.tuple #[.int .u32 (bits .or .u32 (bits .or .u32 (bits .or .u32 ((op : Int) * 16777216) ((a : Int) * 1048576)) (((0 : Nat) : Int) * 65536)) (IntKind.u16.wrap 0 % 4294967296)), .int .i64 0]) = _
        rw [HV.out]
  · rw [show F % 2 = 0 by omega] at v1
    have x1 : bits BinOp.and IntKind.i64 (F : Int) 1 = 0 := v1
    obtain rfl : a = 0 := h1.resolve_left k1
    clear v1 h1
    by_cases k2 : F / 2 % 2 = 1
    · rw [k2] at v2
      have x2 : bits BinOp.and IntKind.i64 (F : Int) 2 = 2 := v2
      clear v2 h2
      by_cases k4 : F / 4 % 2 = 1
      · rw [k4] at v4
        have x4 : bits BinOp.and IntKind.i64 (F : Int) 4 = 4 := v4
        clear v4 h4
        clear k1 k2 k4
        go_wp2_with fail
        go_ret2
        refine ⟨?_, HX.out⟩
        show Ending.returned (.tuple #[.int .u32 (bits .or .u32 (bits .or .u32 (bits .or .u32 ((op : Int) * 16777216) (((0 : Nat) : Int) * 1048576)) ((b : Int) * 65536)) (IntKind.u16.wrap c % 4294967296)), .int .i64 0]) = _
        rw [HV.out]
      · rw [show F / 4 % 2 = 0 by omega] at v4
        have x4 : bits BinOp.and IntKind.i64 (F : Int) 4 = 0 := v4
        obtain rfl : c = 0 := h4.resolve_left k4
        clear v4 h4
        clear k1 k2 k4
        go_wp2_with fail
        go_ret2
        refine ⟨?_, HX.out⟩
        show Ending.returned (.tuple #[.int .u32 (bits .or .u32 (bits .or .u32 (bits .or .u32 ((op : Int) * 16777216) (((0 : Nat) : Int) * 1048576)) ((b : Int) * 65536)) (IntKind.u16.wrap 0 % 4294967296)), .int .i64 0]) = _
        rw [HV.out]
    · rw [show F / 2 % 2 = 0 by omega] at v2
      have x2 : bits BinOp.and IntKind.i64 (F : Int) 2 = 0 := v2
      obtain rfl : b = 0 := h2.resolve_left k2
      clear v2 h2
      by_cases k4 : F / 4 % 2 = 1
      · rw [k4] at v4
        have x4 : bits BinOp.and IntKind.i64 (F : Int) 4 = 4 := v4
        clear v4 h4
        clear k1 k2 k4
        go_wp2_with fail
        go_ret2
        refine ⟨?_, HX.out⟩
        show Ending.returned (.tuple #[.int .u32 (bits .or .u32 (bits .or .u32 (bits .or .u32 ((op : Int) * 16777216) (((0 : Nat) : Int) * 1048576)) (((0 : Nat) : Int) * 65536)) (IntKind.u16.wrap c % 4294967296)), .int .i64 0]) = _
        rw [HV.out]
      · rw [show F / 4 % 2 = 0 by omega] at v4
        have x4 : bits BinOp.and IntKind.i64 (F : Int) 4 = 0 := v4
        obtain rfl : c = 0 := h4.resolve_left k4
        clear v4 h4
        clear k1 k2 k4
        go_wp2_with fail
        go_ret2
        refine ⟨?_, HX.out⟩
        show Ending.returned (.tuple #[.int .u32 (bits .or .u32 (bits .or .u32 (bits .or .u32 ((op : Int) * 16777216) (((0 : Nat) : Int) * 1048576)) (((0 : Nat) : Int) * 65536)) (IntKind.u16.wrap 0 % 4294967296)), .int .i64 0]) = _
        rw [HV.out]
set_option maxHeartbeats 8000000 in
set_option maxRecDepth 100000 in
theorem enc_none (op a b : Nat) (c : Int) (hn : (rowN op).1 = []) (w : World) :
    Calls Tryd.prog 36 #[.agg #[.int .i64 (op : Int), .int .i64 (a : Int), .int .i64 (b : Int), .int .i64 c]] w fun e w' => e = .returned (.tuple #[.int .u32 0, .int .i64 4]) ∧ Ext w w' := by
  have HRN := hide (show (str (rowN op).1).toList.isEmpty = true from by rw [hn, Go.Lib.toList_data, str_list]; rfl)
  clear hn
  have HF := hide (rowN_le op)
  have HR := hide (fun W => row_at op W)
  generalize (rowN op).1 = S at *
  generalize (rowN op).2 = F at *
  go_enter Tryd.func36, Tryd.ntmps36
  have hb0 := Blk.new w 62 #[.int .i64 (op : Int), .int .i64 (a : Int), .int .i64 (b : Int), .int .i64 c]
  have HX := hide ((Ext.refl w).alloc (.cells #[.int .i64 (op : Int), .int .i64 (a : Int), .int .i64 (b : Int), .int .i64 c] 62))
  go_upto_region 1 with fail
  generalize w.alloc (.cells #[.int .i64 (op : Int), .int .i64 (a : Int), .int .i64 (b : Int), .int .i64 c] 62) = W at *
  obtain ⟨g, hg⟩ : ∃ x, w.heap.size = x := ⟨_, rfl⟩
  rw [hg] at hb0 ⊢
  clear hg
  have c0 : W.cell? ⟨g, 0, none⟩ = some (.int .i64 (op : Int)) := hb0.cell 0
  have c1 : W.cell? ⟨g, 1, none⟩ = some (.int .i64 (a : Int)) := hb0.cell 1
  have c2 : W.cell? ⟨g, 2, none⟩ = some (.int .i64 (b : Int)) := hb0.cell 2
  have c3 : W.cell? ⟨g, 3, none⟩ = some (.int .i64 c) := hb0.cell 3
  clear hb0
  go_wp2_with fail
  refine (HR.out W).mono ?_
  rintro e w1 ⟨rfl, rfl⟩
  have t1 := HRN.out
  generalize str S = X at *
  go_wp2_with fail
  go_ret2
  exact ⟨rfl, HX.out⟩
set_option maxHeartbeats 8000000 in
set_option maxRecDepth 100000 in
theorem enc_bigA (op a b : Nat) (c : Int) (hn : (rowN op).1 ≠ []) (ha : 8 ≤ a) (w : World) :
    Calls Tryd.prog 36 #[.agg #[.int .i64 (op : Int), .int .i64 (a : Int), .int .i64 (b : Int), .int .i64 c]] w fun e w' => e = .returned (.tuple #[.int .u32 0, .int .i64 1]) ∧ Ext w w' := by
  have HRN := hide (emp_neE hn)
  clear hn
  have HF := hide (rowN_le op)
  have HR := hide (fun W => row_at op W)
  generalize (rowN op).1 = S at *
  generalize (rowN op).2 = F at *
  go_enter Tryd.func36, Tryd.ntmps36
  have hb0 := Blk.new w 62 #[.int .i64 (op : Int), .int .i64 (a : Int), .int .i64 (b : Int), .int .i64 c]
  have HX := hide ((Ext.refl w).alloc (.cells #[.int .i64 (op : Int), .int .i64 (a : Int), .int .i64 (b : Int), .int .i64 c] 62))
  go_upto_region 1 with fail
  generalize w.alloc (.cells #[.int .i64 (op : Int), .int .i64 (a : Int), .int .i64 (b : Int), .int .i64 c] 62) = W at *
  obtain ⟨g, hg⟩ : ∃ x, w.heap.size = x := ⟨_, rfl⟩
  rw [hg] at hb0 ⊢
  clear hg
  have c0 : W.cell? ⟨g, 0, none⟩ = some (.int .i64 (op : Int)) := hb0.cell 0
  have c1 : W.cell? ⟨g, 1, none⟩ = some (.int .i64 (a : Int)) := hb0.cell 1
  have c2 : W.cell? ⟨g, 2, none⟩ = some (.int .i64 (b : Int)) := hb0.cell 2
  have c3 : W.cell? ⟨g, 3, none⟩ = some (.int .i64 c) := hb0.cell 3
  clear hb0
  go_wp2_with fail
  refine (HR.out W).mono ?_
  rintro e w1 ⟨rfl, rfl⟩
  have t1 := HRN.out
  generalize str S = X at *
  have u1 : decide ((a : Int) < 0) = false := decide_eq_false (by omega)
  have u2 : decide ((8 : Int) ≤ (a : Int)) = true := decide_eq_true (by omega)
  have u2' : decide (8 ≤ a) = true := decide_eq_true (by omega)
  go_wp2_with fail
  go_ret2
  exact ⟨rfl, HX.out⟩
set_option maxHeartbeats 8000000 in
set_option maxRecDepth 100000 in
theorem enc_bigB (op a b : Nat) (c : Int) (hn : (rowN op).1 ≠ []) (ha : a < 8) (hb : 8 ≤ b) (w : World) :
    Calls Tryd.prog 36 #[.agg #[.int .i64 (op : Int), .int .i64 (a : Int), .int .i64 (b : Int), .int .i64 c]] w fun e w' => e = .returned (.tuple #[.int .u32 0, .int .i64 1]) ∧ Ext w w' := by
  have HRN := hide (emp_neE hn)
  clear hn
  have HF := hide (rowN_le op)
  have HR := hide (fun W => row_at op W)
  generalize (rowN op).1 = S at *
  generalize (rowN op).2 = F at *
  go_enter Tryd.func36, Tryd.ntmps36
  have hb0 := Blk.new w 62 #[.int .i64 (op : Int), .int .i64 (a : Int), .int .i64 (b : Int), .int .i64 c]
  have HX := hide ((Ext.refl w).alloc (.cells #[.int .i64 (op : Int), .int .i64 (a : Int), .int .i64 (b : Int), .int .i64 c] 62))
  go_upto_region 1 with fail
  generalize w.alloc (.cells #[.int .i64 (op : Int), .int .i64 (a : Int), .int .i64 (b : Int), .int .i64 c] 62) = W at *
  obtain ⟨g, hg⟩ : ∃ x, w.heap.size = x := ⟨_, rfl⟩
  rw [hg] at hb0 ⊢
  clear hg
  have c0 : W.cell? ⟨g, 0, none⟩ = some (.int .i64 (op : Int)) := hb0.cell 0
  have c1 : W.cell? ⟨g, 1, none⟩ = some (.int .i64 (a : Int)) := hb0.cell 1
  have c2 : W.cell? ⟨g, 2, none⟩ = some (.int .i64 (b : Int)) := hb0.cell 2
  have c3 : W.cell? ⟨g, 3, none⟩ = some (.int .i64 c) := hb0.cell 3
  clear hb0
  go_wp2_with fail
  refine (HR.out W).mono ?_
  rintro e w1 ⟨rfl, rfl⟩
  have t1 := HRN.out
  generalize str S = X at *
  have u1 : decide ((a : Int) < 0) = false := decide_eq_false (by omega)
  have u2 : decide ((8 : Int) ≤ (a : Int)) = false := decide_eq_false (by omega)
  have u2' : decide (8 ≤ a) = false := decide_eq_false (by omega)
  have u3 : decide ((b : Int) < 0) = false := decide_eq_false (by omega)
  have u4 : decide ((8 : Int) ≤ (b : Int)) = true := decide_eq_true (by omega)
  have u4' : decide (8 ≤ b) = true := decide_eq_true (by omega)
  go_wp2_with fail
  go_ret2
  exact ⟨rfl, HX.out⟩
set_option maxHeartbeats 8000000 in
set_option maxRecDepth 100000 in
theorem enc_bad1 (op a b : Nat) (c : Int) (hc : -32768 ≤ c ∧ c ≤ 32767) (hn : (rowN op).1 ≠ []) (ha : a < 8) (hb : b < 8) (hbad : (rowN op).2 % 2 = 0 ∧ a ≠ 0) (w : World) :
    Calls Tryd.prog 36 #[.agg #[.int .i64 (op : Int), .int .i64 (a : Int), .int .i64 (b : Int), .int .i64 c]] w fun e w' => e = .returned (.tuple #[.int .u32 0, .int .i64 3]) ∧ Ext w w' := by
  have HRN := hide (emp_neE hn)
  clear hn
  have HF := hide (rowN_le op)
  have HR := hide (fun W => row_at op W)
  generalize (rowN op).1 = S at *
  generalize (rowN op).2 = F at *
  go_enter Tryd.func36, Tryd.ntmps36
  have hb0 := Blk.new w 62 #[.int .i64 (op : Int), .int .i64 (a : Int), .int .i64 (b : Int), .int .i64 c]
  have HX := hide ((Ext.refl w).alloc (.cells #[.int .i64 (op : Int), .int .i64 (a : Int), .int .i64 (b : Int), .int .i64 c] 62))
  go_upto_region 1 with fail
  generalize w.alloc (.cells #[.int .i64 (op : Int), .int .i64 (a : Int), .int .i64 (b : Int), .int .i64 c] 62) = W at *
  obtain ⟨g, hg⟩ : ∃ x, w.heap.size = x := ⟨_, rfl⟩
  rw [hg] at hb0 ⊢
  clear hg
  have c0 : W.cell? ⟨g, 0, none⟩ = some (.int .i64 (op : Int)) := hb0.cell 0
  have c1 : W.cell? ⟨g, 1, none⟩ = some (.int .i64 (a : Int)) := hb0.cell 1
  have c2 : W.cell? ⟨g, 2, none⟩ = some (.int .i64 (b : Int)) := hb0.cell 2
  have c3 : W.cell? ⟨g, 3, none⟩ = some (.int .i64 c) := hb0.cell 3
  clear hb0
  go_wp2_with fail
  refine (HR.out W).mono ?_
  rintro e w1 ⟨rfl, rfl⟩
  have t1 := HRN.out
  generalize str S = X at *
  have u1 : decide ((a : Int) < 0) = false := decide_eq_false (by omega)
  have u2 : decide ((8 : Int) ≤ (a : Int)) = false := decide_eq_false (by omega)
  have u2' : decide (8 ≤ a) = false := decide_eq_false (by omega)
  have u3 : decide ((b : Int) < 0) = false := decide_eq_false (by omega)
  have u4 : decide ((8 : Int) ≤ (b : Int)) = false := decide_eq_false (by omega)
  have u4' : decide (8 ≤ b) = false := decide_eq_false (by omega)
  have u5 : decide (c < -32768) = false := decide_eq_false (by omega)
  have u6 : decide (32767 < c) = false := decide_eq_false (by omega)
  have v1 := bits_1 F HF.out
  have v2 := bits_2 F HF.out
  have v4 := bits_4 F HF.out
  have HC := hide hc
  clear hc
  clear v2
  clear v4
  obtain ⟨hk, hz⟩ := hbad
  rw [hk] at v1
  have x1 : bits BinOp.and IntKind.i64 (F : Int) 1 = 0 := v1
  have y1 : ((a : Int) != 0) = true := by simp; omega
  clear v1 hk hz
  go_wp2_with fail
  go_ret2
  exact ⟨rfl, HX.out⟩
set_option maxHeartbeats 8000000 in
set_option maxRecDepth 100000 in
theorem enc_bad2 (op a b : Nat) (c : Int) (hc : -32768 ≤ c ∧ c ≤ 32767) (hn : (rowN op).1 ≠ []) (ha : a < 8) (hb : b < 8) (h1 : (rowN op).2 % 2 = 1 ∨ a = 0) (hbad : (rowN op).2 / 2 % 2 = 0 ∧ b ≠ 0) (w : World) :
    Calls Tryd.prog 36 #[.agg #[.int .i64 (op : Int), .int .i64 (a : Int), .int .i64 (b : Int), .int .i64 c]] w fun e w' => e = .returned (.tuple #[.int .u32 0, .int .i64 3]) ∧ Ext w w' := by
  have HRN := hide (emp_neE hn)
  clear hn
  have HF := hide (rowN_le op)
  have HR := hide (fun W => row_at op W)
  generalize (rowN op).1 = S at *
  generalize (rowN op).2 = F at *
  go_enter Tryd.func36, Tryd.ntmps36
  have hb0 := Blk.new w 62 #[.int .i64 (op : Int), .int .i64 (a : Int), .int .i64 (b : Int), .int .i64 c]
  have HX := hide ((Ext.refl w).alloc (.cells #[.int .i64 (op : Int), .int .i64 (a : Int), .int .i64 (b : Int), .int .i64 c] 62))
  go_upto_region 1 with fail
  generalize w.alloc (.cells #[.int .i64 (op : Int), .int .i64 (a : Int), .int .i64 (b : Int), .int .i64 c] 62) = W at *
  obtain ⟨g, hg⟩ : ∃ x, w.heap.size = x := ⟨_, rfl⟩
  rw [hg] at hb0 ⊢
  clear hg
  have c0 : W.cell? ⟨g, 0, none⟩ = some (.int .i64 (op : Int)) := hb0.cell 0
  have c1 : W.cell? ⟨g, 1, none⟩ = some (.int .i64 (a : Int)) := hb0.cell 1
  have c2 : W.cell? ⟨g, 2, none⟩ = some (.int .i64 (b : Int)) := hb0.cell 2
  have c3 : W.cell? ⟨g, 3, none⟩ = some (.int .i64 c) := hb0.cell 3
  clear hb0
  go_wp2_with fail
  refine (HR.out W).mono ?_
  rintro e w1 ⟨rfl, rfl⟩
  have t1 := HRN.out
  generalize str S = X at *
  have u1 : decide ((a : Int) < 0) = false := decide_eq_false (by omega)
  have u2 : decide ((8 : Int) ≤ (a : Int)) = false := decide_eq_false (by omega)
  have u2' : decide (8 ≤ a) = false := decide_eq_false (by omega)
  have u3 : decide ((b : Int) < 0) = false := decide_eq_false (by omega)
  have u4 : decide ((8 : Int) ≤ (b : Int)) = false := decide_eq_false (by omega)
  have u4' : decide (8 ≤ b) = false := decide_eq_false (by omega)
  have u5 : decide (c < -32768) = false := decide_eq_false (by omega)
  have u6 : decide (32767 < c) = false := decide_eq_false (by omega)
  have v1 := bits_1 F HF.out
  have v2 := bits_2 F HF.out
  have v4 := bits_4 F HF.out
  have HC := hide hc
  clear hc
  clear v4
  obtain ⟨hk, hz⟩ := hbad
  rw [hk] at v2
  have x2 : bits BinOp.and IntKind.i64 (F : Int) 2 = 0 := v2
  have y2 : ((b : Int) != 0) = true := by simp; omega
  clear v2 hk hz
  by_cases k1 : F % 2 = 1
  · rw [k1] at v1
    have x1 : bits BinOp.and IntKind.i64 (F : Int) 1 = 1 := v1
    clear v1 h1
    clear k1
    go_wp2_with fail
    go_ret2
    exact ⟨rfl, HX.out⟩
  · rw [show F % 2 = 0 by omega] at v1
    have x1 : bits BinOp.and IntKind.i64 (F : Int) 1 = 0 := v1
    obtain rfl : a = 0 := h1.resolve_left k1
    clear v1 h1
    clear k1
    go_wp2_with fail
    go_ret2
    exact ⟨rfl, HX.out⟩
set_option maxHeartbeats 8000000 in
set_option maxRecDepth 100000 in
theorem enc_bad4 (op a b : Nat) (c : Int) (hc : -32768 ≤ c ∧ c ≤ 32767) (hn : (rowN op).1 ≠ []) (ha : a < 8) (hb : b < 8) (h1 : (rowN op).2 % 2 = 1 ∨ a = 0) (h2 : (rowN op).2 / 2 % 2 = 1 ∨ b = 0) (hbad : (rowN op).2 / 4 % 2 = 0 ∧ c ≠ 0) (w : World) :
    Calls Tryd.prog 36 #[.agg #[.int .i64 (op : Int), .int .i64 (a : Int), .int .i64 (b : Int), .int .i64 c]] w fun e w' => e = .returned (.tuple #[.int .u32 0, .int .i64 3]) ∧ Ext w w' := by
  have HRN := hide (emp_neE hn)
  clear hn
  have HF := hide (rowN_le op)
  have HR := hide (fun W => row_at op W)
  generalize (rowN op).1 = S at *
  generalize (rowN op).2 = F at *
  go_enter Tryd.func36, Tryd.ntmps36
  have hb0 := Blk.new w 62 #[.int .i64 (op : Int), .int .i64 (a : Int), .int .i64 (b : Int), .int .i64 c]
  have HX := hide ((Ext.refl w).alloc (.cells #[.int .i64 (op : Int), .int .i64 (a : Int), .int .i64 (b : Int), .int .i64 c] 62))
  go_upto_region 1 with fail
  generalize w.alloc (.cells #[.int .i64 (op : Int), .int .i64 (a : Int), .int .i64 (b : Int), .int .i64 c] 62) = W at *
  obtain ⟨g, hg⟩ : ∃ x, w.heap.size = x := ⟨_, rfl⟩
  rw [hg] at hb0 ⊢
  clear hg
  have c0 : W.cell? ⟨g, 0, none⟩ = some (.int .i64 (op : Int)) := hb0.cell 0
  have c1 : W.cell? ⟨g, 1, none⟩ = some (.int .i64 (a : Int)) := hb0.cell 1
  have c2 : W.cell? ⟨g, 2, none⟩ = some (.int .i64 (b : Int)) := hb0.cell 2
  have c3 : W.cell? ⟨g, 3, none⟩ = some (.int .i64 c) := hb0.cell 3
  clear hb0
  go_wp2_with fail
  refine (HR.out W).mono ?_
  rintro e w1 ⟨rfl, rfl⟩
  have t1 := HRN.out
  generalize str S = X at *
  have u1 : decide ((a : Int) < 0) = false := decide_eq_false (by omega)
  have u2 : decide ((8 : Int) ≤ (a : Int)) = false := decide_eq_false (by omega)
  have u2' : decide (8 ≤ a) = false := decide_eq_false (by omega)
  have u3 : decide ((b : Int) < 0) = false := decide_eq_false (by omega)
  have u4 : decide ((8 : Int) ≤ (b : Int)) = false := decide_eq_false (by omega)
  have u4' : decide (8 ≤ b) = false := decide_eq_false (by omega)
  have u5 : decide (c < -32768) = false := decide_eq_false (by omega)
  have u6 : decide (32767 < c) = false := decide_eq_false (by omega)
  have v1 := bits_1 F HF.out
  have v2 := bits_2 F HF.out
  have v4 := bits_4 F HF.out
  have HC := hide hc
  clear hc
  obtain ⟨hk, hz⟩ := hbad
  rw [hk] at v4
  have x4 : bits BinOp.and IntKind.i64 (F : Int) 4 = 0 := v4
  have y4 : (c != 0) = true := by simp; omega
  clear v4 hk hz
  by_cases k1 : F % 2 = 1
  · rw [k1] at v1
    have x1 : bits BinOp.and IntKind.i64 (F : Int) 1 = 1 := v1
    clear v1 h1
    by_cases k2 : F / 2 % 2 = 1
    · rw [k2] at v2
      have x2 : bits BinOp.and IntKind.i64 (F : Int) 2 = 2 := v2
      clear v2 h2
      clear k1 k2
      go_wp2_with fail
      go_ret2
      exact ⟨rfl, HX.out⟩
    · rw [show F / 2 % 2 = 0 by omega] at v2
      have x2 : bits BinOp.and IntKind.i64 (F : Int) 2 = 0 := v2
      obtain rfl : b = 0 := h2.resolve_left k2
      clear v2 h2
      clear k1 k2
      go_wp2_with fail
      go_ret2
      exact ⟨rfl, HX.out⟩
  · rw [show F % 2 = 0 by omega] at v1
    have x1 : bits BinOp.and IntKind.i64 (F : Int) 1 = 0 := v1
    obtain rfl : a = 0 := h1.resolve_left k1
    clear v1 h1
    by_cases k2 : F / 2 % 2 = 1
    · rw [k2] at v2
      have x2 : bits BinOp.and IntKind.i64 (F : Int) 2 = 2 := v2
      clear v2 h2
      clear k1 k2
      go_wp2_with fail
      go_ret2
      exact ⟨rfl, HX.out⟩
    · rw [show F / 2 % 2 = 0 by omega] at v2
      have x2 : bits BinOp.and IntKind.i64 (F : Int) 2 = 0 := v2
      obtain rfl : b = 0 := h2.resolve_left k2
      clear v2 h2
      clear k1 k2
      go_wp2_with fail
      go_ret2
      exact ⟨rfl, HX.out⟩
theorem enc_no (op a b : Nat) (c : Int) (hc : -32768 ≤ c ∧ c ≤ 32767) (h : ¬ encOk op a b c) (w : World) :
    Calls Tryd.prog 36 #[.agg #[.int .i64 (op : Int), .int .i64 (a : Int), .int .i64 (b : Int), .int .i64 c]] w fun e w' => (∃ k : Int, k ≠ 0 ∧ e = .returned (.tuple #[.int .u32 0, .int .i64 k])) ∧ Ext w w' := by
  have up : ∀ k : Int, k ≠ 0 → (Calls Tryd.prog 36 #[.agg #[.int .i64 (op : Int), .int .i64 (a : Int), .int .i64 (b : Int), .int .i64 c]] w fun e w' => e = .returned (.tuple #[.int .u32 0, .int .i64 k]) ∧ Ext w w') →
      Calls Tryd.prog 36 #[.agg #[.int .i64 (op : Int), .int .i64 (a : Int), .int .i64 (b : Int), .int .i64 c]] w fun e w' => (∃ k : Int, k ≠ 0 ∧ e = .returned (.tuple #[.int .u32 0, .int .i64 k])) ∧ Ext w w' :=
    fun k hk hc => hc.mono fun e w' ⟨h1, h2⟩ => ⟨⟨k, hk, h1⟩, h2⟩
  by_cases hn : (rowN op).1 = []
  · exact up 4 (by decide) (enc_none op a b c hn w)
  by_cases ha : a < 8
  · by_cases hb : b < 8
    · by_cases h1 : (rowN op).2 % 2 = 1 ∨ a = 0
      · by_cases h2 : (rowN op).2 / 2 % 2 = 1 ∨ b = 0
        · by_cases h4 : (rowN op).2 / 4 % 2 = 1 ∨ c = 0
          · exact absurd ⟨hn, ha, hb, h1, h2, h4⟩ h
          · exact up 3 (by decide) (enc_bad4 op a b c hc hn ha hb h1 h2 ⟨by omega, fun e => h4 (.inr e)⟩ w)
        · exact up 3 (by decide) (enc_bad2 op a b c hc hn ha hb h1 ⟨by omega, fun e => h2 (.inr e)⟩ w)
      · exact up 3 (by decide) (enc_bad1 op a b c hc hn ha hb ⟨by omega, fun e => h1 (.inr e)⟩ w)
    · exact up 1 (by decide) (enc_bigB op a b c hn ha (by omega) w)
  · exact up 1 (by decide) (enc_bigA op a b c hn (by omega) w)
end Go.Proofs.YtikbfmjhmjkkgaaDoor

