/- slices.Equal on slices of int. Plain theorems, no condition. -/
import Derived.Test.YtnniicmpbcfinaaRows
import Derived.Test.YtnniicmpbcfinaaIntsV
import Derived.WalkKit
import Derived.WalkSpells
import Derived.Deep.QuietTactic
import Derived.BigQuiet
import Derived.Deep.DeepCutAuto
namespace Go.Proofs.Ytnniicmpbcfinaa
open Go.RowKit
set_option linter.unusedVariables false

theorem take_next {xs ys : List Int} {k : Nat} (h : xs.take k = ys.take k) (hx : k < xs.length) (hy : k < ys.length) (he : xs.getD k 0 = ys.getD k 0) : xs.take (k + 1) = ys.take (k + 1) := by
  rw [List.take_succ_eq_append_getElem hx, List.take_succ_eq_append_getElem hy, h]
  simp [List.getD_eq_getElem?_getD, hx, hy] at he
  rw [he]
def EqIntsRel (w : World) (xs ys : List Int) (n : Nat) (i : Value) (wr : World) : Prop := ∃ k : Nat, k ≤ n ∧ i = .int .i64 k ∧ xs.take k = ys.take k ∧ ∃ d, wr = w.drewN d

set_option maxRecDepth 100000 in
theorem equal_ints (A : Option Addr) (n c B : Nat) (xs : List Int) (A' : Option Addr) (n' c' B' : Nat) (ys : List Int) (w : World) (hx : Reads w B 1 A n (intsV xs)) (hy : Reads w B' 1 A' n' (intsV ys)) (hn : n ≤ maxLen) (hn' : n' ≤ maxLen) :
    Calls Try.prog 19 #[.slice A n c, .slice A' n' c'] w fun e w' => e = .returned (.bool (decide (xs = ys))) ∧ ∃ d, w' = w.drewN d := by
  unfold maxLen at hn hn'
  have lx : xs.length = n := by have := hx.1; rw [intsV_length] at this; omega
  have ly : ys.length = n' := by have := hy.1; rw [intsV_length] at this; omega
  by_cases hnn : n = n'
  · subst hnn
    have t0 : ((n : Int) != (n : Int)) = false := by simp
    have LX := hide lx
    have LY := hide ly
    have HX := hide hx
    have HY := hide hy
    clear lx ly hx hy hn'
    go_enter Try.func19, Try.ntmps19
    go_wp2_with fail
    go_loopw [13] (EqIntsRel w xs ys n) (fun i _ => n - (intOf i).toNat)
    case atStart => exact ⟨0, Nat.zero_le _, rfl, by simp, 0, rfl⟩
    case round =>
      obtain ⟨k, hk, rfl, ht, d, rfl⟩ := hrel
      have HT := hide ht
      clear ht
      by_cases hlt : k < n
      · obtain ⟨b, off, rfl, -, -⟩ := HX.out.at1 (by omega)
        obtain ⟨b', off', rfl, -, -⟩ := HY.out.at1 (by omega)
        have g1 : w.cell? ⟨b, off + k, none⟩ = some (.int .i64 (xs.getD k 0)) := cells_ints HX.out k hlt
        have g2 : w.cell? ⟨b', off' + k, none⟩ = some (.int .i64 (ys.getD k 0)) := cells_ints HY.out k hlt
        by_cases he : xs.getD k 0 = ys.getD k 0
        · have HN := hide (take_next HT.out (by rw [LX.out]; exact hlt) (by rw [LY.out]; exact hlt) he)
          have t1 : (xs.getD k 0 != ys.getD k 0) = false := by simpa using he
          clear he
          generalize xs.getD k 0 = x at g1 t1
          generalize ys.getD k 0 = y at g2 t1
          go_upto_region 6 with fail
          go_quiet (fail)
          go_wp2_with fail
          go_roundw
          case rel => exact ⟨k + 1, by omega, by go_num, HN.out, _, rfl⟩
          case measure => simp [intOf]; omega
        · have HN : Hid (decide (xs = ys) = false) := hide (by rw [decide_eq_false_iff_not]; rintro rfl; exact he rfl)
          have t1 : (xs.getD k 0 != ys.getD k 0) = true := by simpa using he
          clear he
          generalize xs.getD k 0 = x at g1 t1
          generalize ys.getD k 0 = y at g2 t1
          go_upto_region 6 with fail
          go_quiet (fail)
          go_wp2_with fail
          go_ret
          exact ⟨by rw [HN.out]; rfl, _, World.drewN_drewN _ _ _⟩
      · obtain rfl : k = n := by omega
        have HN : Hid (decide (xs = ys) = true) := hide (by rw [decide_eq_true_iff]; have := HT.out; rwa [List.take_of_length_le (by rw [LX.out]; omega), List.take_of_length_le (by rw [LY.out]; omega)] at this)
        go_wp2_with fail
        go_ret
        exact ⟨by rw [HN.out]; rfl, _, rfl⟩
  · have HN : Hid (decide (xs = ys) = false) := hide (by rw [decide_eq_false_iff_not]; rintro rfl; omega)
    have t0 : ((n : Int) != (n' : Int)) = true := by simp; omega
    clear lx ly hx hy
    go_enter Try.func19, Try.ntmps19
    go_wp2_with fail
    go_ret
    exact ⟨by rw [HN.out]; rfl, 0, rfl⟩
end Go.Proofs.Ytnniicmpbcfinaa
