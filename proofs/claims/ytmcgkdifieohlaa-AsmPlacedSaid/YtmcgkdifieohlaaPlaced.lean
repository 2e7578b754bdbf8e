/- Place changes only the lower half of a word, and the address can be recovered from it: the law AsmPlaced returns true for every input. No condition. -/
import Derived.Test.YtmcgkdifieohlaaRest
import Derived.Test.YtmcgkdifieohlaaOpen
namespace Go.Proofs.Ytmcgkdifieohlaa.asmPlaced
open Go.ChangeShapes Go.WideShapes Go.ChangeAt Go.RowKit
set_option linter.unusedVariables false

theorem hk32 : ∀ n : Int, 0 ≤ n → n < 2 ^ 32 → IntKind.u32.wrap n = n := fun n h₀ h₁ => by rw [IntKind.wrap_u32]; omega
theorem and16 (n : Int) (h : 0 ≤ n) (h' : n ≤ 4294967295) : bits .and .u32 n 65535 = n % 65536 :=
  bits_mask .u32 32 (by decide) hk32 16 (by decide) n h (by omega)
theorem andNot16 (n : Int) (h : 0 ≤ n) (h' : n ≤ 4294967295) : bits .andNot .u32 n 65535 = n / 65536 * 65536 := by
  obtain ⟨a, rfl⟩ := Int.eq_ofNat_of_zero_le h
  have ha : a < 2 ^ 32 := by omega
  have e : a &&& 4294901760 = (a >>> 16) <<< 16 := by
    apply Nat.eq_of_testBit_eq
    intro i
    have hM : (4294901760 : Nat) = (2 ^ 16 - 1) <<< 16 := by decide
    rw [hM, Nat.testBit_and, Nat.testBit_shiftLeft, Nat.testBit_shiftLeft, Nat.testBit_shiftRight, Nat.testBit_two_pow_sub_one]
    by_cases h16 : 16 ≤ i
    · have e1 : 16 + (i - 16) = i := by omega
      rw [e1]
      by_cases h32 : i - 16 < 16
      · simp [h16, h32]
      · have : a.testBit i = false := Nat.testBit_lt_two_pow (Nat.lt_of_lt_of_le ha (Nat.pow_le_pow_right (by omega) (by omega)))
        simp [this]
    · simp [h16]
  have h1 := u32_andNot_nat a 65535 (by omega) (by omega)
  have h2 : (4294967295 - 65535 : Nat) = 4294901760 := rfl
  rw [h2, e, Nat.shiftLeft_eq, Nat.shiftRight_eq_div_pow] at h1
  have h3 : bits .andNot .u32 (a : Int) 65535 = bits .andNot .u32 (a : Int) ((65535 : Nat) : Int) := rfl
  rw [h3, h1]
  omega
/-- The word that Place makes. -/
def placed (x c : Int) : Int := x / 65536 * 65536 + c % 65536
theorem placed_bits (x c : Int) (hx : 0 ≤ x) (hx' : x ≤ 4294967295) (hc : 0 ≤ c) (hc' : c ≤ 4294967295) : bits .or .u32 (bits .andNot .u32 x 65535) (bits .and .u32 c 65535) = placed x c := by
  rw [and16 c hc hc', andNot16 x hx hx', bits_join .u32 32 (by decide) hk32 16 _ _ (by omega) (by omega) (by omega) (by omega) (by omega) (by omega)]
  rfl
theorem ret2 {a b : Value} {a' b' : Value} (h : a = a') (h' : b = b') : Ending.returned (.tuple #[a, b]) = .returned (.tuple #[a', b']) := by rw [h, h']

theorem place_far (x a t : Int) (w : World) (hx : 0 ≤ x) (hx' : x ≤ 4294967295) (ht : 0 ≤ t) (ht' : t < 30000) :
    Calls Try.prog 8 #[.int .u32 x, .int .i64 2, .int .i64 a, .int .i64 t] w fun e w' => e = .returned (.tuple #[.int .u32 (placed x t), .int .i64 0]) ∧ w = w' := by
  go_enter Try.func8, Try.ntmps8
  go_wp2
  go_ret2
  exact ⟨ret2 (congrArg (Value.int .u32) (placed_bits x t hx hx' ht (by omega))) rfl, rfl⟩
theorem place_near (x a t : Int) (w : World) (hx : 0 ≤ x) (hx' : x ≤ 4294967295) (ha : 0 ≤ a) (ha' : a < 30000) (ht : 0 ≤ t) (ht' : t < 30000) :
    Calls Try.prog 8 #[.int .u32 x, .int .i64 1, .int .i64 a, .int .i64 t] w fun e w' => e = .returned (.tuple #[.int .u32 (placed x ((t - a) % 4294967296)), .int .i64 0]) ∧ w = w' := by
  go_enter Try.func8, Try.ntmps8
  go_wp2
  go_ret2
  exact ⟨ret2 (congrArg (Value.int .u32) (placed_bits x _ hx hx' (by omega) (by omega))) rfl, rfl⟩
theorem place_whole (x a t : Int) (w : World) (ht : 0 ≤ t) (ht' : t < 30000) :
    Calls Try.prog 8 #[.int .u32 x, .int .i64 3, .int .i64 a, .int .i64 t] w fun e w' => e = .returned (.tuple #[.int .u32 t, .int .i64 0]) ∧ w = w' := by
  go_enter Try.func8, Try.ntmps8
  go_wp2
  go_ret2
  exact ⟨rfl, rfl⟩
theorem place_big (x a : Int) (w : World) :
    Calls Try.prog 8 #[.int .u32 x, .int .i64 2, .int .i64 a, .int .i64 40000] w fun e w' => e = .returned (.tuple #[.int .u32 0, .int .i64 1]) ∧ w = w' := by
  go_enter Try.func8, Try.ntmps8
  go_wp2
  go_ret2
  exact ⟨rfl, rfl⟩

set_option maxHeartbeats 1000000 in
theorem walk (x a t : Int) (w : World) (hx : 0 ≤ x) (hx' : x ≤ 4294967295) (ha : -9223372036854775808 ≤ a) (ha' : a ≤ 9223372036854775807) (ht : -9223372036854775808 ≤ t) (ht' : t ≤ 9223372036854775807) :
    Calls Try.prog 3 #[.int .u32 x, .int .i64 a, .int .i64 t] w fun e w' => e = .returned (.bool true) ∧ Ext w w' := by
  go_enter Try.func3, Try.ntmps3
  go_wp2_with fail
  refine (rest_any _ _ _ ha ha' (by omega) (by omega)).mono ?_
  rintro e w' ⟨rfl, rfl⟩
  go_wp2_with fail
  refine (rest_any _ _ _ ht ht' (by omega) (by omega)).mono ?_
  rintro e w' ⟨rfl, rfl⟩
  have a1 := restZ_lo a 30000 (by omega)
  have a2 := restZ_hi a 30000 (by omega)
  have t1 := restZ_lo t 30000 (by omega)
  have t2 := restZ_hi t 30000 (by omega)
  generalize restZ a 30000 = a at *
  generalize restZ t 30000 = t at *
  go_wp2_with fail
  refine (place_far _ _ _ _ hx hx' t1 t2).mono ?_
  rintro e w' ⟨rfl, rfl⟩
  go_wp2_with fail
  refine (place_near _ _ _ _ hx hx' a1 a2 t1 t2).mono ?_
  rintro e w' ⟨rfl, rfl⟩
  go_wp2_with fail
  refine (place_whole _ _ _ _ t1 t2).mono ?_
  rintro e w' ⟨rfl, rfl⟩
  go_wp2_with fail
  refine (place_big _ _ _).mono ?_
  rintro e w' ⟨rfl, rfl⟩
  have e1 : placed x t / 65536 = x / 65536 := by unfold placed; omega
  have e2 : wrap64 (bits .and .u32 (placed x t) 65535) = t := by
    rw [and16 _ (by unfold placed; omega) (by unfold placed; omega)]
    unfold placed wrap64
    omega
  have e3 : placed x ((t - a) % 4294967296) / 65536 = x / 65536 := by unfold placed; omega
  have e4 : wrap64 (IntKind.i16.wrap (bits .and .u32 (placed x ((t - a) % 4294967296)) 65535)) = t - a := by
    rw [and16 _ (by unfold placed; omega) (by unfold placed; omega)]
    have hw : ∀ n : Int, IntKind.i16.wrap n = (n + 32768) % 65536 - 32768 := by
      intro n
      simp [IntKind.wrap, IntKind.bits, IntKind.signed]
      split <;> omega
    rw [hw]
    unfold placed wrap64
    omega
  go_wp2_with fail
  go_ret
  exact ⟨rfl, Ext.refl _⟩

theorem own : ownKnob Try.prog.godebug = none := by kernel_rfl
theorem laidOut : laidOutB Try.prog = true := by kernel_rfl

set_option maxRecDepth 100000 in
theorem lifted (os : Os) (started : os.Started) (H : Type) (enc : TypeId × Value → H) :
    ReturnsInHanded {} Try.checked os 3 .any (Rows.asmPlacedSpec.pre6 enc Try.prog Try.f3 Rows.asmPlacedRow.domain false) (Rows.asmPlacedSpec.post enc Try.prog Try.f3 false true false false) := by
  refine returnsInHanded_of_change (C := Try.checked) own started (by kernel_rfl) Try.func3
    (ChangeSpec.witness6 (enc := enc) (C := Try.checked) false ⟨#[], #[.int .u32 0, .int .i64 0, .int .i64 0], []⟩ 8 (by kernel_rfl) (by kernel_rfl) (by kernel_rfl) (by kernel_rfl)) ?_
  intro W base args ds gs before hval0 hW hcnd _
  have hval : ∀ (j : Nat) t v, Try.f3.params[j]? = some t → args[j]? = some v → Value.okWide Try.prog W .any base t v := hval0
  have hW' := hW
  obtain ⟨p, q, hA0, hV, rfl, hfz, hnd⟩ := hW
  have hA : DataW.TrodAll enc Try.prog W 0 (fun _ => true) true Try.f3.params.toList args.toList ds p := hA0
  rw [Try.params3] at hA hval
  obtain ⟨v0, vs0, d0, ds0, p0, q0, hargs, rfl, rfl, h0, r0⟩ := trodAll_cons hA
  obtain ⟨v1, vs1, d1, ds1, p1, q1, rfl, rfl, rfl, h1, r1⟩ := trodAll_cons r0
  obtain ⟨v2, vs2, d2, ds2, p2, q2, rfl, rfl, rfl, h2, r2⟩ := trodAll_cons r1
  obtain ⟨rfl, rfl, rfl⟩ := trodAll_nil r2
  obtain rfl : args = #[v0, v1, v2] := by cases args; simp_all
  obtain ⟨rfl, rfl⟩ := trodVars_none hV
  have k0 := h0
  have lt0 : ∀ x ∈ p0, x.block < W.heap.size := by obtain ⟨m, hm⟩ := k0; exact DataW.trod_lt m _ _ _ hm
  have k1 := h1
  have lt1 : ∀ x ∈ p1, x.block < W.heap.size := by obtain ⟨m, hm⟩ := k1; exact DataW.trod_lt m _ _ _ hm
  have k2 := h2
  have lt2 : ∀ x ∈ p2, x.block < W.heap.size := by obtain ⟨m, hm⟩ := k2; exact DataW.trod_lt m _ _ _ hm
  obtain ⟨a0, rfl, rfl, rfl, w0⟩ := open_int Try.underlying22 (hval 0 22 v0 rfl rfl) h0
  obtain ⟨a1, rfl, rfl, rfl, w1⟩ := open_int Try.underlying3 (hval 1 3 v1 rfl rfl) h1
  obtain ⟨a2, rfl, rfl, rfl, w2⟩ := open_int Try.underlying3 (hval 2 3 v2 rfl rfl) h2
  have b0 := bounds_u32 w0
  have b1 := bounds_i64 w1
  have b2 := bounds_i64 w2
  clear hA0 hval0
  refine (walk a0 a1 a2 W b0.1 b0.2 b1.1 b1.2 b2.1 b2.2).mono fun e W' ⟨he, hx⟩ => ?_
  subst he
  have bel := hx.below
  exact ⟨_, rfl, _, _, _, [], _, [], hW', trodAll_mk1 (shut_bool Try.underlying4 _), (trodAll_cons_mk (Below.trod laidOut (by kernel_rfl) (of_decide_eq_true (by kernel_rfl)) k0 bel lt0) (trodAll_cons_mk (Below.trod laidOut (by kernel_rfl) (of_decide_eq_true (by kernel_rfl)) k1 bel lt1) (trodAll_cons_mk (Below.trod laidOut (by kernel_rfl) (of_decide_eq_true (by kernel_rfl)) k2 bel lt2) trodAll_mk0))), rfl, bel.frame _, fun h => by cases h⟩

theorem over : Rows.asmPlacedRow.holds Try.pinned (OpenSpec.ofChange Rows.asmPlacedSpec) :=
  OpenClaim.holds_of_wide 3 Try.f3 rfl rfl rfl rfl rfl rfl rfl ⟨rfl, rfl, rfl, rfl, rfl⟩ rfl rfl rfl rfl rfl (by kernel_rfl) Try.func3 (by kernel_rfl)
    (of_decide_eq_true (by kernel_rfl)) (by unfold Func.isWrapper; first | (rw [if_pos (by decide +kernel)]; kernel_rfl) | (rw [if_neg (by decide +kernel)]; exact ⟨rfl, rfl⟩))
    (fun os started H enc _ => lifted os started H enc)

theorem proved : Rows.AsmPlacedSaid :=
  over
#print axioms proved
end Go.Proofs.Ytmcgkdifieohlaa.asmPlaced
