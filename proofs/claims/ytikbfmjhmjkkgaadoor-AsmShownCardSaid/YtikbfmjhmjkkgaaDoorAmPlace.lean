/- The contract of asm.Place, near. -/
import Derived.Test.YtikbfmjhmjkkgaaDoorAmWord
namespace Go.Proofs.YtikbfmjhmjkkgaaDoor
open Go.RowKit
set_option linter.unusedVariables false

theorem hk32 : ∀ n : Int, 0 ≤ n → n < 2 ^ 32 → IntKind.u32.wrap n = n := fun n h₀ h₁ => by rw [IntKind.wrap_u32]; omega
theorem and16 (n : Int) (h : 0 ≤ n) (h' : n ≤ 4294967295) : bits .and .u32 n 65535 = n % 65536 :=
  bits_mask .u32 32 (by decide) hk32 16 (by decide) n h (by omega)
theorem andNot16 (n : Int) (h : 0 ≤ n) (h' : n ≤ 4294967295) : bits .andNot .u32 n 65535 = n / 65536 * 65536 := by
  obtain ⟨a, rfl⟩ := Int.eq_ofNat_of_zero_le h
  have ha : a < 2 ^ 32 := by omega
  have e : a &&& 4294901760 = (a >>> 16) <<< 16 := by
    apply Nat.eq_of_testBit_eq
    intro i
    have hM : (4294901760 : Nat) = (2 ^ 16 - 1) <<< 16 := by decide
    rw [hM, Nat.testBit_and, Nat.testBit_shiftLeft, Nat.testBit_shiftLeft, Nat.testBit_shiftRight, Nat.testBit_two_pow_sub_one]
    by_cases h16 : 16 ≤ i
    · have e1 : 16 + (i - 16) = i := by omega
      rw [e1]
      by_cases h32 : i - 16 < 16
      · simp [h16, h32]
      · have : a.testBit i = false := Nat.testBit_lt_two_pow (Nat.lt_of_lt_of_le ha (Nat.pow_le_pow_right (by omega) (by omega)))
        simp [this]
    · simp [h16]
  have h1 := u32_andNot_nat a 65535 (by omega) (by omega)
  have h2 : (4294967295 - 65535 : Nat) = 4294901760 := rfl
  rw [h2, e, Nat.shiftLeft_eq, Nat.shiftRight_eq_div_pow] at h1
  have h3 : bits .andNot .u32 (a : Int) 65535 = bits .andNot .u32 (a : Int) ((65535 : Nat) : Int) := rfl
  rw [h3, h1]
  omega
theorem placed_bits (x : Nat) (c : Int) (hx : x ≤ 4294967295) (hc : -32768 ≤ c ∧ c ≤ 32767) :
    bits .or .u32 (bits .andNot .u32 (x : Int) 65535) (bits .and .u32 (c % 4294967296) 65535) = ((x / 65536 * 65536 + (c % 65536).toNat : Nat) : Int) := by
  rw [and16 _ (by omega) (by omega), andNot16 x (by omega) (by omega), bits_join .u32 32 (by decide) hk32 16 _ _ (by omega) (by omega) (by omega) (by omega) (by omega) (by omega)]
  omega
def placeE (pos tt : Nat) : Int := if -32768 ≤ (tt : Int) - pos ∧ (tt : Int) - pos ≤ 32767 then 0 else 1
set_option maxHeartbeats 4000000 in
set_option maxRecDepth 100000 in
theorem place_any (x pos tt : Nat) (w : World) (hx : x ≤ 4294967295) (hp : pos ≤ 1000000) (ht : tt ≤ 1000000) :
    Calls Tryd.prog 10 #[.int .u32 (x : Int), .int .i64 1, .int .i64 (pos : Int), .int .i64 (tt : Int)] w fun e w' => e = .returned (.tuple #[.int .u32 (placeN x pos tt : Int), .int .i64 (placeE pos tt)]) ∧ w = w' := by
  obtain ⟨c, hc⟩ : ∃ c : Int, (tt : Int) - pos = c := ⟨_, rfl⟩
  have HP := hide (show placeN x pos tt = if -32768 ≤ (tt : Int) - pos ∧ (tt : Int) - pos ≤ 32767 then x / 65536 * 65536 + (((tt : Int) - pos) % 65536).toNat else 0 from rfl)
  have HE := hide (show placeE pos tt = if -32768 ≤ (tt : Int) - pos ∧ (tt : Int) - pos ≤ 32767 then 0 else 1 from rfl)
  rw [hc] at HP HE
  have hw : IntKind.i64.wrap ((tt : Int) - (pos : Int)) = c := by rw [IntKind.wrap_i64]; omega
  have hw2 : wrap64 ((tt : Int) - (pos : Int)) = c := by unfold wrap64; omega
  have u1 : decide ((pos : Int) < 0) = false := decide_eq_false (by omega)
  have u2 : decide ((4294967295 : Int) < (pos : Int)) = false := decide_eq_false (by omega)
  have u3 : decide ((tt : Int) < 0) = false := decide_eq_false (by omega)
  have u4 : decide ((4294967295 : Int) < (tt : Int)) = false := decide_eq_false (by omega)
  have u2' : decide (4294967295 < pos) = false := decide_eq_false (by omega)
  have u4' : decide (4294967295 < tt) = false := decide_eq_false (by omega)
  by_cases hin : -32768 ≤ c ∧ c ≤ 32767
  · have HB := hide (placed_bits x c hx hin)
    rw [if_pos hin] at HP HE
    have t1 : decide (c < -32768) = false := decide_eq_false (by omega)
    have t2 : decide (32767 < c) = false := decide_eq_false (by omega)
    clear hc
    go_enter Tryd.func10, Tryd.ntmps10
    go_wp2_with fail
    go_ret2
    refine ⟨?_, rfl⟩
    show Ending.returned (.tuple #[.int .u32 (bits .or .u32 (bits .andNot .u32 (x : Int) 65535) (bits .and .u32 (c % 4294967296) 65535)), .int .i64 0]) = _
    rw [HB.out, HP.out, HE.out]
  · rw [if_neg hin] at HP HE
    clear hc
    by_cases h1 : c < -32768
    · have t1 : decide (c < -32768) = true := decide_eq_true h1
      go_enter Tryd.func10, Tryd.ntmps10
      go_wp2_with fail
      go_ret2
      refine ⟨?_, rfl⟩
      rw [HP.out, HE.out]
      rfl
    · have t1 : decide (c < -32768) = false := decide_eq_false h1
      have t2 : decide (32767 < c) = true := decide_eq_true (by omega)
      go_enter Tryd.func10, Tryd.ntmps10
      go_wp2_with fail
      go_ret2
      refine ⟨?_, rfl⟩
      rw [HP.out, HE.out]
      rfl
end Go.Proofs.YtikbfmjhmjkkgaaDoor
