/- Contracts of the small functions that seg and the laws over it call. -/
import Derived.Test.YtacfffegmmdgfaaRows
import Derived.Test.YtacfffegmmdgfaaMem
import Derived.Test.YtacfffegmmdgfaaSgPlain
import Derived.WalkKit
import Derived.WalkSpells
import Derived.ProofKit
import Derived.OpenShut
import Derived.Deep.QuietTactic
import Derived.BigQuiet
namespace Go.Proofs.Ytacfffegmmdgfaa.Sg
open Go.RowKit
set_option linter.unusedVariables false

theorem rest_any (n k : Int) (w : World) (hn : -9223372036854775808 ≤ n) (hn' : n ≤ 9223372036854775807) (hk : 0 < k) (hk' : k ≤ 9223372036854775807) :
    Calls Try.prog 10 #[.int .i64 n, .int .i64 k] w fun e w' => e = .returned (.int .i64 (restZ n k)) ∧ w = w' := by
  by_cases h : n < 0
  · go_enter Try.func10, Try.ntmps10
    go_wp2
    go_ret
    refine ⟨ret_int ?_, rfl⟩
    show -(n + 1).tmod k = restZ n k
    rw [restZ, if_pos h, ← Int.neg_tmod, Int.tmod_eq_emod_of_nonneg (by omega)]
  · go_enter Try.func10, Try.ntmps10
    go_wp2
    go_ret
    refine ⟨ret_int ?_, rfl⟩
    show n % k = restZ n k
    rw [restZ, if_neg (by omega)]

theorem cut_any (A : Option Addr) (n c k : Nat) (w : World) (hn : n ≤ c) (hc : c ≤ maxLen) (hk : k ≤ 9223372036854775807) :
    Calls Try.prog 20 #[.slice A n c, .int .i64 k] w fun e w' => e = .returned (.slice A (min n k) c) ∧ w = w' := by
  unfold maxLen at hc
  have h1 : k < n → min n k = k := fun h => Nat.min_eq_right (by omega)
  have h2 : ¬ k < n → min n k = n := fun h => Nat.min_eq_left (by omega)
  have H1 := hide h1
  have H2 := hide h2
  clear h1 h2
  by_cases h : k < n
  · rw [H1.out h]
    go_enter Try.func20, Try.ntmps20
    go_wp2
    go_ret
    exact ⟨rfl, rfl⟩
  · rw [H2.out h]
    go_enter Try.func20, Try.ntmps20
    go_wp2
    go_ret
    exact ⟨rfl, rfl⟩

theorem four_cells (n : Nat) (hn : n ≤ 4294967295) : #[Value.int .u8 ((n : Int) / 16777216), Value.int .u8 ((n : Int) / 65536 % 256), Value.int .u8 ((n : Int) / 256 % 256), Value.int .u8 ((n : Int) % 256)] = (bytesV (four n)).toArray := by
  simp [bytesV, four]
  omega
theorem four_any (n : Nat) (w : World) (hn : n ≤ 4294967295) :
    Calls Try.prog 35 #[.int .u32 n] w fun e w' => e = .returned (.slice (some ⟨w.heap.size, 0, none⟩) 4 4) ∧ w.alloc (.cells (bytesV (four n)).toArray 5) = w' := by
  go_enter Try.func35, Try.ntmps35
  go_wp2
  go_ret
  exact ⟨rfl, by rw [four_cells n hn]⟩

/-- What Check answers. -/
def chk (fl wn : Int) (n : Nat) : Int := if fl < 0 ∨ 15 < fl ∨ wn < 0 ∨ 255 < wn then 1 else if 32 < n then 2 else 0

theorem check_ok (s a fl wn : Int) (A : Option Addr) (n c : Nat) (w : World) (h1 : 0 ≤ fl) (h2 : fl ≤ 15) (h3 : 0 ≤ wn) (h4 : wn ≤ 255) (h5 : n ≤ 32) :
    Calls Try.prog 34 #[.agg #[.int .u32 s, .int .u32 a, .int .i64 fl, .int .i64 wn, .slice A n c]] w fun e w' => e = .returned (.int .i64 0) ∧ w.alloc (.cells #[.int .u32 s, .int .u32 a, .int .i64 fl, .int .i64 wn, .slice A n c] 60) = w' := by
  go_enter Try.func34, Try.ntmps34
  go_wp2
  go_ret
  exact ⟨rfl, rfl⟩

theorem or4 (b0 b1 b2 b3 : Nat) (l0 : b0 < 256) (l1 : b1 < 256) (l2 : b2 < 256) (l3 : b3 < 256) :
    bits .or .u32 (bits .or .u32 (bits .or .u32 ((b0 : Int) * 16777216) ((b1 : Int) * 65536)) ((b2 : Int) * 256)) (b3 : Int) = (b0 * 16777216 + b1 * 65536 + b2 * 256 + b3 : Int) := by
  have hk : ∀ n : Int, 0 ≤ n → n < 2 ^ 32 → IntKind.u32.wrap n = n := fun n h₀ h₁ => by rw [IntKind.wrap_u32]; omega
  rw [bits_join .u32 32 (by decide) hk 24 ((b0 : Int) * 16777216) ((b1 : Int) * 65536) (by omega) (by omega) (by omega) (by omega) (by omega) (by omega)]
  rw [bits_join .u32 32 (by decide) hk 16 ((b0 : Int) * 16777216 + (b1 : Int) * 65536) ((b2 : Int) * 256) (by omega) (by omega) (by omega) (by omega) (by omega) (by omega)]
  rw [bits_join .u32 32 (by decide) hk 8 ((b0 : Int) * 16777216 + (b1 : Int) * 65536 + (b2 : Int) * 256) (b3 : Int) (by omega) (by omega) (by omega) (by omega) (by omega) (by omega)]

theorem word_any (b off n c : Nat) (b0 b1 b2 b3 : Nat) (w : World) (hn : 4 ≤ n) (hc : n ≤ c)
    (h0 : w.cell? ⟨b, off, none⟩ = some (.int .u8 b0)) (h1 : w.cell? ⟨b, off + 1, none⟩ = some (.int .u8 b1)) (h2 : w.cell? ⟨b, off + 2, none⟩ = some (.int .u8 b2)) (h3 : w.cell? ⟨b, off + 3, none⟩ = some (.int .u8 b3))
    (l0 : b0 < 256) (l1 : b1 < 256) (l2 : b2 < 256) (l3 : b3 < 256) :
    Calls Try.prog 39 #[.slice (some ⟨b, off, none⟩) n c] w fun e w' => e = .returned (.int .u32 (b0 * 16777216 + b1 * 65536 + b2 * 256 + b3)) ∧ ∃ q, w' = w.drewN q := by
  have i0 : (0 : Int) < (n : Int) := by omega
  have i1 : (1 : Int) < (n : Int) := by omega
  have i2 : (2 : Int) < (n : Int) := by omega
  have i3 : (3 : Int) < (n : Int) := by omega
  go_enter Try.func39, Try.ntmps39
  go_wp2
  go_quiet (fail)
  go_wp2
  go_ret
  exact ⟨ret_int (or4 b0 b1 b2 b3 l0 l1 l2 l3), _, rfl⟩

/-- The same, of a slice that reads as bytes. -/
theorem word_r (A : Option Addr) (n c B : Nat) (bs : List UInt8) (w : World) (hr : Reads w B 1 A n (bytesV bs)) (hn : 4 ≤ n) (hc : n ≤ c) :
    Calls Try.prog 39 #[.slice A n c] w fun e w' => e = .returned (.int .u32 (word bs 0 : Nat)) ∧ ∃ q, w' = w.drewN q := by
  obtain ⟨b, off, rfl, hb, hcell⟩ := hr.at1 (by omega)
  have k0 := hcell 0 (by omega)
  have k1 := hcell 1 (by omega)
  have k2 := hcell 2 (by omega)
  have k3 := hcell 3 (by omega)
  rw [bytesV_getElem] at k0 k1 k2 k3
  refine (word_any b off n c _ _ _ _ w hn hc k0 k1 k2 k3 (bs.getD 0 0).toNat_lt (bs.getD 1 0).toNat_lt (bs.getD 2 0).toNat_lt (bs.getD 3 0).toNat_lt).mono ?_
  rintro e w' ⟨he, hq⟩
  exact ⟨by rw [he]; simp [word], hq⟩

theorem xor_max (n : Nat) (h : n ≤ 65535) : bits .xor .u16 IntKind.u16.max (n : Int) = ((65535 - n : Nat) : Int) := by
  have e : BitVec.ofInt 16 IntKind.u16.max = BitVec.allOnes 16 := by decide
  show IntKind.u16.wrap ((BitVec.ofInt 16 IntKind.u16.max ^^^ BitVec.ofInt 16 (n : Int)).toNat : Int) = _
  rw [e, BitVec.allOnes_xor, BitVec.toNat_not, BitVec.ofInt_natCast, BitVec.toNat_ofNat]
  have hm : n % 2 ^ 16 = n := Nat.mod_eq_of_lt (by omega)
  rw [hm]
  simp [IntKind.wrap, IntKind.bits, IntKind.signed]
  omega
theorem and16 (n : Int) (h : 0 ≤ n) (h' : n ≤ 4294967295) : bits .and .u32 n 65535 = n % 65536 :=
  bits_mask .u32 32 (by decide) (fun n h₀ h₁ => by rw [IntKind.wrap_u32]; omega) 16 (by decide) n h (by omega)
theorem sum_even (s k x : Nat) (hs : s ≤ 65535) (hx : x < 256) (h : ((k : Int) % 2 == 0) = true) :
    (bits .and .u32 ((s : Int) + (x : Int) * 256) 65535 + ((s : Int) + (x : Int) * 256) / 65536) % 4294967296 = (sumStep s k x : Int) := by
  have hk : k % 2 = 0 := by simp at h; omega
  rw [and16 _ (by omega) (by omega)]
  simp only [sumStep, if_pos hk]
  omega
theorem sum_odd (s k x : Nat) (hs : s ≤ 65535) (hx : x < 256) (h : ((k : Int) % 2 == 0) = false) :
    (bits .and .u32 ((s : Int) + (x : Int)) 65535 + ((s : Int) + (x : Int)) / 65536) % 4294967296 = (sumStep s k x : Int) := by
  have hk : ¬ k % 2 = 0 := by simp at h; omega
  rw [and16 _ (by omega) (by omega)]
  simp only [sumStep, if_neg hk]
  omega

theorem sum_any (A : Option Addr) (n c B : Nat) (bs : List UInt8) (w : World) (hr : Reads w B 1 A n (bytesV bs)) (hc : c ≤ maxLen) (hn : n ≤ c) :
    Calls Try.prog 36 #[.slice A n c] w fun e w' => e = .returned (.int .u16 ((65535 - sumTo bs n : Nat) : Int)) ∧ w = w' := by
  unfold maxLen at hc
  have HR := hide hr
  clear hr
  go_enter Try.func36, Try.ntmps36
  go_wp2
  go_loop [3, 8] (fun s i => ∃ k : Nat, k ≤ n ∧ i = .int .i64 k ∧ s = .int .u32 (sumTo bs k)) (fun _ i => n - (intOf i).toNat)
  case atStart => exact ⟨0, Nat.zero_le _, rfl, rfl⟩
  case round =>
    obtain ⟨k, hk, rfl, rfl⟩ := hrel
    have hs := sumTo_le bs k
    by_cases hlt : k < n
    · obtain ⟨b, off, rfl, hb, hcell⟩ := HR.out.at1 (by omega)
      have hc1 := hcell k hlt
      rw [bytesV_getElem] at hc1
      clear hcell
      have hby : (bs.getD k 0).toNat < 256 := (bs.getD k 0).toNat_lt
      have HS := hide (show sumTo bs (k + 1) = sumStep (sumTo bs k) k (bs.getD k 0).toNat from rfl)
      generalize (bs.getD k 0).toNat = x at *
      generalize sumTo bs k = s at *
      go_wp2
      · go_round
        case rel => exact ⟨k + 1, by omega, by go_num, by rw [HS.out, sum_even s k x hs hby (by assumption)]⟩
        case measure => simp [intOf]; omega
      · go_round
        case rel => exact ⟨k + 1, by omega, by go_num, by rw [HS.out, sum_odd s k x hs hby (by assumption)]⟩
        case measure => simp [intOf]; omega
    · go_wp2
      go_ret
      obtain rfl : k = n := by omega
      exact ⟨ret_int (xor_max _ hs), rfl⟩

theorem u8_info : (Try.prog.info? 5).map (fun i => (i.zero, i.size, i.bytes)) = some (some (.int .u8 0), 1, 1) := by kernel_rfl

theorem bclone_any (A : Option Addr) (n c B : Nat) (xs : List Value) (w : World) (hr : Reads w B 1 A n xs) (h1 : ∀ u ∈ xs, u.oneCell' = true) (hB : B ≤ w.heap.size) (hc : n ≤ 140737488355328) (hA : A = none → n = 0) :
    Calls Try.prog 37 #[.slice A n c] w fun e w' => ∃ A' c', e = .returned (.slice A' n c') ∧ w'.ownsRow w.heap.size 5 1 (.slice A' n c') n xs ∧ Ext w w' := by
  obtain ⟨i0, hi0, hz0, hz1, hz2⟩ := info_parts u8_info
  have q : ∀ (w : World) (a : Option Addr) (n c n' c' : Nat), (binOp .eql 24 (.slice a n c) (.slice none n' c')).run Try.prog w = .ok (.bool a.isNone) w := fun w a n c n' c' => Lib.run_eql_slice_nil w _ _ a n c n' c' Try.underlying24
  rcases A with _ | ad
  · obtain rfl := hA rfl
    have hx : xs = [] := List.eq_nil_of_length_eq_zero (by simpa using hr.1)
    subst hx
    go_enter Try.func37, Try.ntmps37
    go_wp2
    go_ret
    exact ⟨_, _, rfl, World.ownsRow_nil _ _ _ _, Ext.refl _⟩
  · have hr' := hr.alloc hB (.cells #[] 5)
    have HR := hide hr'
    clear hr hr' hA
    go_enter Try.func37, Try.ntmps37
    go_wp2_with (at_builtin; refine wpList_append_any _ rfl (.tmp 5) (.tmp 6) _ rfl w.heap.size 5 i0 _ 1 1 Try.underlying24 hi0 hz0 hz1 hz2 rfl (by omega) _ 0 [] rfl (World.ownsRow_made w #[] 0 (Nat.le_refl _) (Nat.zero_le _) rfl) B (some ad) n c xs rfl HR.out h1 (by simp only [maxLen]; omega) (by omega) (by simp) ?_; intro A1 c1 w1 hown1 hg1 hat1)
    go_ret
    refine ⟨A1, c1, by simp, by simpa using hown1, ?_⟩
    exact ((Ext.refl w).alloc _).grown hg1 (fun k hk => by injection hk with hk; subst hk; exact Nat.le_refl _)
theorem sclone_any (A : Option Addr) (n c B : Nat) (xs : List Value) (w : World) (hr : Reads w B 1 A n xs) (h1 : ∀ u ∈ xs, u.oneCell' = true) (hB : B ≤ w.heap.size) (hc : n ≤ 140737488355328) (hA : A = none → n = 0) :
    Calls Try.prog 38 #[.slice A n c] w fun e w' => ∃ A' c', e = .returned (.slice A' n c') ∧ w'.ownsRow w.heap.size 5 1 (.slice A' n c') n xs ∧ Ext w w' := by
  obtain ⟨i0, hi0, hz0, hz1, hz2⟩ := info_parts u8_info
  have q : ∀ (w : World) (a : Option Addr) (n c n' c' : Nat), (binOp .eql 24 (.slice a n c) (.slice none n' c')).run Try.prog w = .ok (.bool a.isNone) w := fun w a n c n' c' => Lib.run_eql_slice_nil w _ _ a n c n' c' Try.underlying24
  rcases A with _ | ad
  · obtain rfl := hA rfl
    have hx : xs = [] := List.eq_nil_of_length_eq_zero (by simpa using hr.1)
    subst hx
    go_enter Try.func38, Try.ntmps38
    go_wp2
    go_ret
    exact ⟨_, _, rfl, World.ownsRow_nil _ _ _ _, Ext.refl _⟩
  · have hr' := hr.alloc hB (.cells #[] 5)
    have HR := hide hr'
    clear hr hr' hA
    go_enter Try.func38, Try.ntmps38
    go_wp2_with (at_builtin; refine wpList_append_any _ rfl (.tmp 5) (.tmp 6) _ rfl w.heap.size 5 i0 _ 1 1 Try.underlying24 hi0 hz0 hz1 hz2 rfl (by omega) _ 0 [] rfl (World.ownsRow_made w #[] 0 (Nat.le_refl _) (Nat.zero_le _) rfl) B (some ad) n c xs rfl HR.out h1 (by simp only [maxLen]; omega) (by omega) (by simp) ?_; intro A1 c1 w1 hown1 hg1 hat1)
    go_ret
    refine ⟨A1, c1, by simp, by simpa using hown1, ?_⟩
    exact ((Ext.refl w).alloc _).grown hg1 (fun k hk => by injection hk with hk; subst hk; exact Nat.le_refl _)
end Go.Proofs.Ytacfffegmmdgfaa.Sg
