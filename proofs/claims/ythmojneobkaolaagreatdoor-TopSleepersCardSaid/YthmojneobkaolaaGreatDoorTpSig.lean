/- Sets of signals: nothing waits, or signal 3 (p is 0 or 8); x is what is done with 3. Printed by gen_sig.py. -/
import Derived.Test.YthmojneobkaolaaGreatDoorTpProc
import Derived.Test.YthmojneobkaolaaGreatDoorSetC
namespace Go.Proofs.YthmojneobkaolaaGreatDoor
open Go.RowKit
set_option linter.unusedVariables false

abbrev iv (x : Int) : Value := .int .i64 x
/-- What is done with each: x with signal 3. -/
def howA (x : Int) : List Value := [iv 0, iv 0, iv 0, iv x, iv 0, iv 0, iv 0, iv 0, iv 0, iv 0, iv 0, iv 0, iv 0, iv 0, iv 0, iv 0]
theorem howA_at (x : Int) (i : Nat) (h : i < 16) : (howA x).toArray[i]? = some (iv (if i = 3 then x else 0)) := by
  rcases (show i = 0 ∨ i = 1 ∨ i = 2 ∨ i = 3 ∨ i = 4 ∨ i = 5 ∨ i = 6 ∨ i = 7 ∨ i = 8 ∨ i = 9 ∨ i = 10 ∨ i = 11 ∨ i = 12 ∨ i = 13 ∨ i = 14 ∨ i = 15 by omega) with rfl | rfl | rfl | rfl | rfl | rfl | rfl | rfl | rfl | rfl | rfl | rfl | rfl | rfl | rfl | rfl <;> rfl
/-- A set of signals. -/
def sigL (p x : Int) : List Value := iv p :: iv 0 :: howA x
def sigA (p x : Int) : Array Value := (sigL p x).toArray
theorem sig_size (p x : Int) : (Tryz.prog.info? 56).map (·.size) = some (sigL p x).length := by
  show _ = some 18
  kernel_rfl
theorem how_size (x : Int) : (Tryz.prog.info? 54).map (·.size) = some (howA x).length := by
  show _ = some 16
  kernel_rfl
theorem sig_range {W : World} {g : Nat} {p x : Int} (h : Blk W g 56 (sigA p x)) : W.rangeAt g 0 (sigL p x) := h.all
theorem how_range {W : World} {g : Nat} {p x : Int} (h : Blk W g 56 (sigA p x)) : W.rangeAt g 2 (howA x) := h.range 2 _ fun j v hv => by
  show (sigL p x).toArray[2 + j]? = some v
  rw [List.getElem?_toArray, show 2 + j = j + 1 + 1 by omega]
  exact hv
def CkRel (v : Value) (w0 wr : World) : Prop := ∃ i : Nat, v = .int .i64 (i : Int) ∧ i ≤ 16 ∧ w0 = wr
theorem int_info : (Tryz.prog.info? 3).map (fun i => (i.zero, i.size, i.bytes)) = some (some (.int .i64 0), 1, 8) := by kernel_rfl
theorem bits_a : bits BinOp.andNot IntKind.i64 0 65534 = 0 := by kernel_rfl
theorem bits_b : bits BinOp.andNot IntKind.i64 8 65534 = 0 := by kernel_rfl
set_option maxHeartbeats 8000000 in
set_option maxRecDepth 100000 in
theorem sigcheck_ok (p x : Int) (hp : p = 0 ∨ p = 8) (hx : 0 ≤ x) (w : World) :
    Calls Tryz.prog 152 #[.agg (sigA p x)] w fun e w' => e = .returned (.int .i64 0) ∧ Ext w w' := by
  obtain ⟨i0, hi0, hz0, hz1, hz2⟩ := info_parts int_info
  have hb : bits BinOp.andNot IntKind.i64 p 65534 = 0 := by rcases hp with rfl | rfl; exact bits_a; exact bits_b
  have hb0 := bits_a
  have HB := hide (Blk.new w 56 (sigA p x))
  have HX := hide ((Ext.refl w).alloc (.cells (sigA p x) 56))
  clear hp
  go_enter Tryz.func152, Tryz.ntmps152
  go_upto_region 1 with fail
  generalize w.alloc _ = W at *
  generalize w.heap.size = g at *
  have k0 : W.cell? ⟨g, 0, none⟩ = some (.int .i64 p) := HB.out.cell 0
  have k1 : W.cell? ⟨g, 1, none⟩ = some (.int .i64 0) := HB.out.cell 1
  have k11 : W.cell? ⟨g, 11, none⟩ = some (.int .i64 0) := HB.out.cell 11
  have HLD := hide (how_range HB.out)
  have HSZ := hide (how_size x)
  have HI := hide (fun (i : Nat) (hi : i < 16) (W : World) => index_arr (P := Tryz.prog) (t := 54) Tryz.underlying54 Tryz.underlying3 rfl hi0 hz1 (howA x).toArray i hi (howA_at x i hi) .i64 W)
  go_upto_region 4 with ((with_reducible refine wpList_load_mid rfl 54 (.tmp 15) rfl g 2 rfl (howA x) _ HLD.out Tryz.underlying54 rfl HSZ.out ?_))
  generalize (howA x).toArray = A at *
  go_loopw [17] (CkRel · W) (fun v _ => 16 - (intOf v).toNat)
  case atStart => exact ⟨0, rfl, by omega, rfl⟩
  case round =>
    obtain ⟨i, rfl, hi, rfl⟩ := hrel
    by_cases hlt : i < 16
    · have hlt' : (i : Int) < 16 := by omega
      have hix := HI.out i hlt W
      obtain ⟨v, hv⟩ : ∃ v : Int, (if i = 3 then x else 0) = v := ⟨_, rfl⟩
      have hv0 : 0 ≤ v := by rw [← hv]; split <;> omega
      have hvi : i = 0 → v = 0 := by rw [← hv]; intro e; rw [if_neg (by omega)]
      rw [hv] at hix
      clear hv
      have t1 : decide (v < 0) = false := decide_eq_false (by omega)
      by_cases h0 : i = 0
      · obtain rfl := hvi h0
        subst h0
        rw [show ((0 : Nat) : Int) = 0 from rfl] at hix
        go_wp2_with fail
        go_roundw
        case rel => exact ⟨1, by first | rfl | go_num, by omega, rfl⟩
        case measure => simp [intOf]
      · have t2 : ((i : Int) == 0) = false := beq_eq_false_iff_ne.2 (by omega)
        go_wp2_with fail
        go_roundw
        case rel => exact ⟨i + 1, by first | rfl | go_num, by omega, rfl⟩
        case measure => simp [intOf]; omega
    · obtain rfl : i = 16 := by omega
      go_wp2_with fail
      go_ret
      exact ⟨rfl, HX.out⟩
def NxRel (lo hi : Nat) (v : Value) (w0 wr : World) : Prop := ∃ i : Nat, v = .int .i64 (i : Int) ∧ lo ≤ i ∧ i ≤ hi ∧ w0 = wr
theorem bit_none (i : Nat) : (bits BinOp.and IntKind.i64 (bits BinOp.andNot IntKind.i64 0 0 / 2 ^ i) 1 == 1) = false := by
  rw [show bits BinOp.andNot IntKind.i64 0 0 = 0 by kernel_rfl, Int.zero_ediv]
  kernel_rfl
theorem bit_kill : (bits BinOp.and IntKind.i64 0 1 == 1) = false := by kernel_rfl
theorem bit_kill8 : (bits BinOp.and IntKind.i64 (8 / 2 ^ 9) 1 == 1) = false := by kernel_rfl
set_option maxHeartbeats 8000000 in
set_option maxRecDepth 100000 in
theorem signext_none (x : Int) (hx : 0 ≤ x) (w : World) :
    Calls Tryz.prog 80 #[.agg (sigA 0 x)] w fun e w' => e = .returned (.tuple #[.int .i64 0, .int .i64 4]) ∧ Ext w w' := by
  have HB := hide (Blk.new w 56 (sigA 0 x))
  have HX := hide ((Ext.refl w).alloc (.cells (sigA 0 x) 56))
  have HC := hide (sigcheck_ok 0 x (.inl rfl) hx)
  go_enter Tryz.func80, Tryz.ntmps80
  go_upto_region 1 with fail
  generalize w.alloc _ = W at *
  generalize w.heap.size = g at *
  have HLD := hide (sig_range HB.out)
  have HSZ := hide (sig_size 0 x)
  go_wp2_with ((with_reducible refine wpList_load_mid rfl 56 (.tmp 1) rfl g 0 rfl (sigL 0 x) _ HLD.out Tryz.underlying56 rfl HSZ.out ?_))
  refine (HC.out W).mono ?_
  rintro e w1 ⟨rfl, hx1⟩
  have HX1 := hide (HX.out.trans hx1)
  have HB1 := hide (HB.out.ext hx1)
  clear hx1 HX HB HC HLD
  have k0 : w1.cell? ⟨g, 0, none⟩ = some (.int .i64 0) := HB1.out.cell 0
  have k1 : w1.cell? ⟨g, 1, none⟩ = some (.int .i64 0) := HB1.out.cell 1
  have t0 := bit_kill
  go_upto_region 8 with fail
  go_loopw [6] (NxRel 1 16 · w1) (fun v _ => 16 - (intOf v).toNat)
  case atStart => exact ⟨1, rfl, by omega, by omega, rfl⟩
  case round =>
    obtain ⟨i, rfl, hi1, hi2, rfl⟩ := hrel
    by_cases hlt : i ≤ 15
    · have hlt' : (i : Int) ≤ 15 := by omega
      have t1 := bit_none i
      go_wp2_with fail
      go_roundw
      case rel => exact ⟨i + 1, by first | rfl | go_num, by omega, by omega, rfl⟩
      case measure => simp [intOf]; omega
    · obtain rfl : i = 16 := by omega
      go_wp2_with fail
      go_ret2
      exact ⟨rfl, HX1.out⟩
set_option maxHeartbeats 8000000 in
set_option maxRecDepth 100000 in
theorem signext_some (x : Int) (hx : 0 ≤ x) (w : World) :
    Calls Tryz.prog 80 #[.agg (sigA 8 x)] w fun e w' => e = .returned (.tuple #[.int .i64 3, .int .i64 0]) ∧ Ext w w' := by
  have HB := hide (Blk.new w 56 (sigA 8 x))
  have HX := hide ((Ext.refl w).alloc (.cells (sigA 8 x) 56))
  have HC := hide (sigcheck_ok 8 x (.inr rfl) hx)
  go_enter Tryz.func80, Tryz.ntmps80
  go_upto_region 1 with fail
  generalize w.alloc _ = W at *
  generalize w.heap.size = g at *
  have HLD := hide (sig_range HB.out)
  have HSZ := hide (sig_size 8 x)
  go_wp2_with ((with_reducible refine wpList_load_mid rfl 56 (.tmp 1) rfl g 0 rfl (sigL 8 x) _ HLD.out Tryz.underlying56 rfl HSZ.out ?_))
  refine (HC.out W).mono ?_
  rintro e w1 ⟨rfl, hx1⟩
  have HX1 := hide (HX.out.trans hx1)
  have HB1 := hide (HB.out.ext hx1)
  clear hx1 HX HB HC HLD
  have k0 : w1.cell? ⟨g, 0, none⟩ = some (.int .i64 8) := HB1.out.cell 0
  have k1 : w1.cell? ⟨g, 1, none⟩ = some (.int .i64 0) := HB1.out.cell 1
  have t0 := bit_kill8
  go_upto_region 8 with fail
  go_loopw [6] (NxRel 1 3 · w1) (fun v _ => 3 - (intOf v).toNat)
  case atStart => exact ⟨1, rfl, by omega, by omega, rfl⟩
  case round =>
    obtain ⟨i, rfl, hi1, hi2, rfl⟩ := hrel
    rcases (show i = 1 ∨ i = 2 ∨ i = 3 by omega) with rfl | rfl | rfl
    · have t1 : (bits BinOp.and IntKind.i64 (bits BinOp.andNot IntKind.i64 8 0 / 2 ^ 1) 1 == 1) = false := by kernel_rfl
      have t2 : (bits BinOp.and IntKind.i64 (bits BinOp.andNot IntKind.i64 8 0 / 2) 1 == 1) = false := by kernel_rfl
      rw [show ((1 : Nat) : Int) = 1 from rfl]
      go_wp2_with fail
      go_roundw
      case rel => exact ⟨2, by first | rfl | go_num, by omega, by omega, rfl⟩
      case measure => simp [intOf]
    · have t1 : (bits BinOp.and IntKind.i64 (bits BinOp.andNot IntKind.i64 8 0 / 2 ^ 2) 1 == 1) = false := by kernel_rfl
      have t2 : (bits BinOp.and IntKind.i64 (bits BinOp.andNot IntKind.i64 8 0 / 4) 1 == 1) = false := by kernel_rfl
      rw [show ((2 : Nat) : Int) = 2 from rfl]
      go_wp2_with fail
      go_roundw
      case rel => exact ⟨3, by first | rfl | go_num, by omega, by omega, rfl⟩
      case measure => simp [intOf]
    · have t1 : (bits BinOp.and IntKind.i64 (bits BinOp.andNot IntKind.i64 8 0 / 2 ^ 3) 1 == 1) = true := by kernel_rfl
      have t2 : (bits BinOp.and IntKind.i64 (bits BinOp.andNot IntKind.i64 8 0 / 8) 1 == 1) = true := by kernel_rfl
      rw [show ((3 : Nat) : Int) = 3 from rfl]
      go_wp2_with fail
      go_ret2
      exact ⟨rfl, HX1.out⟩
end Go.Proofs.YthmojneobkaolaaGreatDoor
