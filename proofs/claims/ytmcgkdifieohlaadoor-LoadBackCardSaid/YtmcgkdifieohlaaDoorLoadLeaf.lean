/- Contracts of the small functions of load: four, word, Sum, bytes.Clone, bytes.Equal, slices.Clone. -/
import Derived.Test.YtmcgkdifieohlaaDoorLoadCheck
import Derived.Test.YtmcgkdifieohlaaDoorStr
namespace Go.Proofs.YtmcgkdifieohlaaDoor
open Go.RowKit
set_option linter.unusedVariables false

theorem u8_info : (Tryd.prog.info? 5).map (fun i => (i.zero, i.size, i.bytes)) = some (some (.int .u8 0), 1, 1) := by kernel_rfl

theorem bclone_any (A : Option Addr) (n c B : Nat) (xs : List Value) (w : World) (hr : Reads w B 1 A n xs) (h1 : ∀ u ∈ xs, u.oneCell' = true) (hB : B ≤ w.heap.size) (hc : n ≤ 140737488355328) (hA : A = none → n = 0) :
    Calls Tryd.prog 14 #[.slice A n c] w fun e w' => ∃ A' c', e = .returned (.slice A' n c') ∧ w'.ownsRow w.heap.size 5 1 (.slice A' n c') n xs ∧ Ext w w' := by
  obtain ⟨i0, hi0, hz0, hz1, hz2⟩ := info_parts u8_info
  have q : ∀ (w : World) (a : Option Addr) (n c n' c' : Nat), (binOp .eql 31 (.slice a n c) (.slice none n' c')).run Tryd.prog w = .ok (.bool a.isNone) w := fun w a n c n' c' => Lib.run_eql_slice_nil w _ _ a n c n' c' Tryd.underlying31
  rcases A with _ | ad
  · obtain rfl := hA rfl
    have hx : xs = [] := List.eq_nil_of_length_eq_zero (by simpa using hr.1)
    subst hx
    go_enter Tryd.func14, Tryd.ntmps14
    go_wp2
    go_ret
    exact ⟨_, _, rfl, World.ownsRow_nil _ _ _ _, Ext.refl _⟩
  · have hr' := hr.alloc hB (.cells #[] 5)
    have HR := hide hr'
    clear hr hr' hA
    go_enter Tryd.func14, Tryd.ntmps14
    go_wp2_with (at_builtin; refine wpList_append_any _ rfl (.tmp 5) (.tmp 6) _ rfl w.heap.size 5 i0 _ 1 1 Tryd.underlying31 hi0 hz0 hz1 hz2 rfl (by omega) _ 0 [] rfl (World.ownsRow_made w #[] 0 (Nat.le_refl _) (Nat.zero_le _) rfl) B (some ad) n c xs rfl HR.out h1 (by simp only [maxLen]; omega) (by omega) (by simp) ?_; intro A1 c1 w1 hown1 hg1 hat1)
    go_ret
    refine ⟨A1, c1, by simp, by simpa using hown1, ?_⟩
    exact ((Ext.refl w).alloc _).grown hg1 (fun k hk => by injection hk with hk; subst hk; exact Nat.le_refl _)
def fourL (n : Nat) : List UInt8 := [UInt8.ofNat (n % 256), UInt8.ofNat (n / 256 % 256), UInt8.ofNat (n / 65536 % 256), UInt8.ofNat (n / 16777216 % 256)]
theorem fourL_length (n : Nat) : (fourL n).length = 4 := rfl
theorem fourL_cells (n : Nat) (hn : n ≤ 4294967295) : #[Value.int .u8 ((n : Int) % 256), Value.int .u8 ((n : Int) / 256 % 256), Value.int .u8 ((n : Int) / 65536 % 256), Value.int .u8 ((n : Int) / 16777216)] = (bytesV (fourL n)).toArray := by
  simp [bytesV, fourL]
  omega
theorem four_any (n : Nat) (w : World) (hn : n ≤ 4294967295) :
    Calls Tryd.prog 12 #[.int .u32 n] w fun e w' => e = .returned (.slice (some ⟨w.heap.size, 0, none⟩) 4 4) ∧ w.alloc (.cells (bytesV (fourL n)).toArray 5) = w' := by
  go_enter Tryd.func12, Tryd.ntmps12
  go_wp2
  go_ret
  exact ⟨rfl, by rw [fourL_cells n hn]⟩
theorem or4 (b0 b1 b2 b3 : Nat) (l0 : b0 < 256) (l1 : b1 < 256) (l2 : b2 < 256) (l3 : b3 < 256) :
    bits .or .u32 (bits .or .u32 (bits .or .u32 (b0 : Int) ((b1 : Int) * 256)) ((b2 : Int) * 65536)) ((b3 : Int) * 16777216) = (b0 + b1 * 256 + b2 * 65536 + b3 * 16777216 : Int) := by
  have hk : ∀ n : Int, 0 ≤ n → n < 2 ^ 32 → IntKind.u32.wrap n = n := fun n h₀ h₁ => by rw [IntKind.wrap_u32]; omega
  have hc : ∀ a b : Int, bits .or .u32 a b = bits .or .u32 b a := fun a b => by simp only [bits]; rw [BitVec.or_comm]
  rw [hc (b0 : Int), bits_join .u32 32 (by decide) hk 8 ((b1 : Int) * 256) (b0 : Int) (by omega) (by omega) (by omega) (by omega) (by omega) (by omega)]
  rw [hc _ ((b2 : Int) * 65536), bits_join .u32 32 (by decide) hk 16 ((b2 : Int) * 65536) ((b1 : Int) * 256 + b0) (by omega) (by omega) (by omega) (by omega) (by omega) (by omega)]
  rw [hc _ ((b3 : Int) * 16777216), bits_join .u32 32 (by decide) hk 24 ((b3 : Int) * 16777216) ((b2 : Int) * 65536 + ((b1 : Int) * 256 + b0)) (by omega) (by omega) (by omega) (by omega) (by omega) (by omega)]
  omega
def wordL (bs : List UInt8) : Nat := (bs.getD 0 0).toNat + (bs.getD 1 0).toNat * 256 + (bs.getD 2 0).toNat * 65536 + (bs.getD 3 0).toNat * 16777216
theorem wordL_lt (bs : List UInt8) : wordL bs ≤ 4294967295 := by
  have h0 := (bs.getD 0 0).toNat_lt; have h1 := (bs.getD 1 0).toNat_lt; have h2 := (bs.getD 2 0).toNat_lt; have h3 := (bs.getD 3 0).toNat_lt
  unfold wordL
  omega
theorem word_any (b off n c : Nat) (b0 b1 b2 b3 : Nat) (w : World) (hn : 4 ≤ n) (hc : n ≤ c)
    (h0 : w.cell? ⟨b, off, none⟩ = some (.int .u8 b0)) (h1 : w.cell? ⟨b, off + 1, none⟩ = some (.int .u8 b1)) (h2 : w.cell? ⟨b, off + 2, none⟩ = some (.int .u8 b2)) (h3 : w.cell? ⟨b, off + 3, none⟩ = some (.int .u8 b3))
    (l0 : b0 < 256) (l1 : b1 < 256) (l2 : b2 < 256) (l3 : b3 < 256) :
    Calls Tryd.prog 15 #[.slice (some ⟨b, off, none⟩) n c] w fun e w' => e = .returned (.int .u32 (b0 + b1 * 256 + b2 * 65536 + b3 * 16777216)) ∧ ∃ q, w' = w.drewN q := by
  have i0 : (0 : Int) < (n : Int) := by omega
  have i1 : (1 : Int) < (n : Int) := by omega
  have i2 : (2 : Int) < (n : Int) := by omega
  have i3 : (3 : Int) < (n : Int) := by omega
  go_enter Tryd.func15, Tryd.ntmps15
  go_wp2
  go_quiet (fail)
  go_wp2
  go_ret
  exact ⟨ret_int (or4 b0 b1 b2 b3 l0 l1 l2 l3), _, rfl⟩
theorem word_r (A : Option Addr) (n c B : Nat) (bs : List UInt8) (w : World) (hr : Reads w B 1 A n (bytesV bs)) (hn : 4 ≤ n) (hc : n ≤ c) :
    Calls Tryd.prog 15 #[.slice A n c] w fun e w' => e = .returned (.int .u32 (wordL bs : Nat)) ∧ ∃ q, w' = w.drewN q := by
  obtain ⟨b, off, rfl, hb, hcell⟩ := hr.at1 (by omega)
  have k0 := hcell 0 (by omega)
  have k1 := hcell 1 (by omega)
  have k2 := hcell 2 (by omega)
  have k3 := hcell 3 (by omega)
  rw [bytesV_getElem] at k0 k1 k2 k3
  refine (word_any b off n c _ _ _ _ w hn hc k0 k1 k2 k3 (bs.getD 0 0).toNat_lt (bs.getD 1 0).toNat_lt (bs.getD 2 0).toNat_lt (bs.getD 3 0).toNat_lt).mono ?_
  rintro e w' ⟨he, hq⟩
  exact ⟨by rw [he]; simp [wordL], hq⟩

def sumL (bs : List UInt8) : Nat := bs.foldl (fun s c => (s * 31 + c.toNat) % 4294967296) 1
theorem sumL_lt (bs : List UInt8) : sumL bs < 4294967296 := by
  have key : ∀ (bs : List UInt8) (s : Nat), s < 4294967296 → bs.foldl (fun s c => (s * 31 + c.toNat) % 4294967296) s < 4294967296 := by
    intro bs
    induction bs with
    | nil => intro s hs; exact hs
    | cons c bs ih => intro s _; exact ih _ (Nat.mod_lt _ (by omega))
  exact key bs 1 (by omega)
theorem sumL_snoc (bs : List UInt8) (c : UInt8) : sumL (bs ++ [c]) = (sumL bs * 31 + c.toNat) % 4294967296 := by simp [sumL]
def SumRel (bs : List UInt8) (n : Nat) (s i : Value) : Prop := ∃ k : Nat, k ≤ n ∧ i = .int .i64 k ∧ s = .int .u32 (sumL (bs.take k) : Nat)
theorem sum_any (A : Option Addr) (n c B : Nat) (bs : List UInt8) (w : World) (hr : Reads w B 1 A n (bytesV bs)) (hn : n ≤ maxLen) :
    Calls Tryd.prog 13 #[.slice A n c] w fun e w' => e = .returned (.int .u32 (sumL bs : Nat)) ∧ w = w' := by
  unfold maxLen at hn
  have lb : bs.length = n := by have := hr.1; rw [bytesV_length] at this; omega
  have HL := hide lb
  have HR := hide hr
  clear hr lb
  go_enter Tryd.func13, Tryd.ntmps13
  go_wp2_with fail
  go_loop [3, 8] (SumRel bs n) (fun _ i => n - (intOf i).toNat)
  case atStart => exact ⟨0, Nat.zero_le _, rfl, rfl⟩
  case round =>
    obtain ⟨k, hk, rfl, rfl⟩ := hrel
    have hs := sumL_lt (bs.take k)
    by_cases hlt : k < n
    · obtain ⟨b, off, rfl, -, -⟩ := HR.out.at1 (by omega)
      have hkl : k < bs.length := by rw [HL.out]; exact hlt
      have hc1 := cells_of HR.out k hlt
      have HS := hide (show sumL (bs.take (k + 1)) = (sumL (bs.take k) * 31 + (bs.getD k 0).toNat) % 4294967296 by rw [List.take_succ_eq_append_getElem hkl, sumL_snoc]; simp [List.getD_eq_getElem?_getD, hkl])
      have hby : (bs.getD k 0).toNat < 256 := (bs.getD k 0).toNat_lt
      generalize (bs.getD k 0).toNat = x at *
      generalize sumL (bs.take k) = s at *
      go_wp2_with fail
      go_round
      case rel => exact ⟨k + 1, by omega, by go_num, by rw [HS.out]; congr 1; omega⟩
      case measure => simp [intOf]; omega
    · obtain rfl : k = n := by omega
      rw [List.take_of_length_le (by rw [HL.out]; exact Nat.le_refl _)]
      go_wp2_with fail
      go_ret
      exact ⟨rfl, rfl⟩
theorem beq_any (A : Option Addr) (n c B : Nat) (xs : List UInt8) (A' : Option Addr) (n' c' B' : Nat) (ys : List UInt8) (w : World) (hx : Reads w B 1 A n (bytesV xs)) (hy : Reads w B' 1 A' n' (bytesV ys)) :
    Calls Tryd.prog 17 #[.slice A n c, .slice A' n' c'] w fun e w' => e = .returned (.bool (decide (xs = ys))) ∧ w = w' := by
  have s1 := conv_str' (P := Tryd.prog) Tryd.underlying31 Tryd.underlying5 Tryd.underlying9 hx c
  have s2 := conv_str' (P := Tryd.prog) Tryd.underlying31 Tryd.underlying5 Tryd.underlying9 hy c'
  have HD := hide (show decide (xs = ys) = ((str xs).toList == (str ys).toList) by
    rw [str, str, ByteArray.toList_mk, ByteArray.toList_mk, Bool.eq_iff_iff]
    simp)
  clear hx hy
  generalize str xs = S at *
  generalize str ys = T at *
  go_enter Tryd.func17, Tryd.ntmps17
  go_wp2_with fail
  go_ret
  exact ⟨by rw [HD.out]; rfl, rfl⟩
end Go.Proofs.YtmcgkdifieohlaaDoor
