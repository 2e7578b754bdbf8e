/- slices.Equal of words and of needs that read the same. -/
import Derived.Test.YtikbfmjhmjkkgaaDoorAmMem
import Derived.Deep.QuietTactic
import Derived.BigQuiet
namespace Go.Proofs.YtikbfmjhmjkkgaaDoor
open Go.RowKit
set_option linter.unusedVariables false

def EqSRel (w : World) (n : Nat) (i : Value) (wr : World) : Prop := ∃ k : Nat, k ≤ n ∧ i = .int .i64 k ∧ ∃ d, wr = w.drewN d
set_option maxRecDepth 100000 in
theorem equal_u32 (A : Option Addr) (n c B : Nat) (l : List Nat) (A' : Option Addr) (c' B' : Nat) (w : World) (hx : Reads w B 1 A n (u32V l)) (hy : Reads w B' 1 A' n (u32V l)) (hn : n ≤ 100000) :
    Calls Tryd.prog 13 #[.slice A n c, .slice A' n c'] w fun e w' => e = .returned (.bool true) ∧ ∃ d, w' = w.drewN d := by
  have t0 : ((n : Int) != (n : Int)) = false := by simp
  have LX := hide (show l.length = n by have := hx.1; rw [u32V_len] at this; omega)
  have HX := hide hx
  have HY := hide hy
  clear hx hy
  go_enter Tryd.func13, Tryd.ntmps13
  go_wp2_with fail
  go_loopw [13] (EqSRel w n) (fun i _ => n - (intOf i).toNat)
  case atStart => exact ⟨0, Nat.zero_le _, rfl, 0, rfl⟩
  case round =>
    obtain ⟨k, hk, rfl, d, rfl⟩ := hrel
    by_cases hlt : k < n
    · obtain ⟨b, off, rfl, -, h1⟩ := HX.out.at1 (by omega)
      obtain ⟨b', off', rfl, -, h2⟩ := HY.out.at1 (by omega)
      have g1 := h1 k hlt
      have g2 := h2 k hlt
      obtain ⟨z, hz⟩ : ∃ z : Int, (u32V l)[k]'(by rw [u32V_len, LX.out]; exact hlt) = .int .u32 z := ⟨_, by simp [u32V]; rfl⟩
      rw [hz] at g1 g2
      have t1 : (z != z) = false := by simp
      clear h1 h2 hz
      go_upto_region 6 with fail
      go_quiet (fail)
      go_wp2_with fail
      go_roundw
      case rel => exact ⟨k + 1, by omega, by go_num, _, rfl⟩
      case measure => simp [intOf]; omega
    · obtain rfl : k = n := by omega
      go_wp2_with fail
      go_ret
      exact ⟨rfl, _, rfl⟩
set_option maxRecDepth 100000 in
theorem equal_ne (A : Option Addr) (n c B : Nat) (l : List (Nat × Bs × Nat)) (A' : Option Addr) (c' B' : Nat) (w : World) (hx : Reads w B 3 A n (l.flatMap needC)) (hy : Reads w B' 3 A' n (l.flatMap needC)) (hn : n ≤ 100000) :
    Calls Tryd.prog 11 #[.slice A n c, .slice A' n c'] w fun e w' => e = .returned (.bool true) ∧ ∃ d, w' = w.drewN d := by
  have t0 : ((n : Int) != (n : Int)) = false := by simp
  have LX := hide (flat_len needC_len (by omega) hx)
  have HX := hide hx
  have HY := hide hy
  clear hx hy
  go_enter Tryd.func11, Tryd.ntmps11
  go_wp2_with fail
  go_loopw [13] (EqSRel w n) (fun i _ => n - (intOf i).toNat)
  case atStart => exact ⟨0, Nat.zero_le _, rfl, 0, rfl⟩
  case round =>
    obtain ⟨k, hk, rfl, d, rfl⟩ := hrel
    by_cases hlt : k < n
    · obtain ⟨b, off, rfl, -⟩ := HX.out.addr (by omega) (by omega)
      obtain ⟨b', off', rfl, -⟩ := HY.out.addr (by omega) (by omega)
      have hkl : k < l.length := by have := LX.out; omega
      have g0 := Reads.elem needC_len HX.out k hkl (by omega) 0 (by omega) rfl
      have g1 := Reads.elem needC_len HX.out k hkl (by omega) 1 (by omega) rfl
      have g2 := Reads.elem needC_len HX.out k hkl (by omega) 2 (by omega) rfl
      have y0 := Reads.elem needC_len HY.out k hkl (by omega) 0 (by omega) rfl
      have y1 := Reads.elem needC_len HY.out k hkl (by omega) 1 (by omega) rfl
      have y2 := Reads.elem needC_len HY.out k hkl (by omega) 2 (by omega) rfl
      rw [Nat.add_zero] at g0 y0
      generalize l[k] = x at *
      obtain ⟨pos, nm, kind⟩ := x
      dsimp only at *
      generalize str nm = snm at *
      go_upto_region 6 with fail
      go_quiet (fail)
      go_wp2_with fail
      go_roundw
      case rel => exact ⟨k + 1, by omega, by go_num, _, rfl⟩
      case measure => simp [intOf]; omega
    · obtain rfl : k = n := by omega
      go_wp2_with fail
      go_ret
      exact ⟨rfl, _, rfl⟩
end Go.Proofs.YtikbfmjhmjkkgaaDoor
