/- slices.Index and slices.Contains on numbers. Plain theorems, no condition. -/
import Derived.Test.YtikpdhkjkmbomaaRows
import Derived.Test.YtikpdhkjkmbomaaIntsV
import Derived.WalkKit
import Derived.WalkSpells
namespace Go.Proofs.Ytikpdhkjkmbomaa
open Go.RowKit
set_option linter.unusedVariables false

/-- Where a number stands first. -/
def IdxOf (xs : List Int) (v : Int) (z : Int) : Prop := (∃ i : Nat, ∃ h : i < xs.length, z = i ∧ xs[i] = v ∧ ∀ j (hj : j < xs.length), j < i → xs[j] ≠ v) ∨ (z = -1 ∧ v ∉ xs)
def IdxPost (w : World) (xs : List Int) (v : Int) (e : Ending) (w' : World) : Prop := ∃ z : Int, e = .returned (.int .i64 z) ∧ IdxOf xs v z ∧ w = w'
def IdxRel (xs : List Int) (v : Int) (n : Nat) (i : Value) : Prop := ∃ k : Nat, k ≤ n ∧ i = .int .i64 k ∧ ∀ j (hj : j < xs.length), j < k → xs[j] ≠ v
theorem index_ints (A : Option Addr) (n c B : Nat) (xs : List Int) (v : Int) (w : World) (hx : Reads w B 1 A n (intsV xs)) (hn : n ≤ maxLen) :
    Calls Try.prog 19 #[.slice A n c, .int .i64 v] w (IdxPost w xs v) := by
  unfold maxLen at hn
  have lx : xs.length = n := by have := hx.1; rw [intsV_length] at this; omega
  have LX := hide lx
  have HX := hide hx
  clear lx hx
  go_enter Try.func19, Try.ntmps19
  go_wp2_with fail
  go_loop [8] (IdxRel xs v n) (fun i => n - (intOf i).toNat)
  case atStart => exact ⟨0, Nat.zero_le _, rfl, fun j _ h => absurd h (by omega)⟩
  case round =>
    obtain ⟨k, hk, rfl, hne⟩ := hrel
    have HNE := hide hne
    clear hne
    by_cases hlt : k < n
    · obtain ⟨b, off, rfl, -, -⟩ := HX.out.at1 (by omega)
      have hkl : k < xs.length := by rw [LX.out]; exact hlt
      have g1 : w.cell? ⟨b, off + k, none⟩ = some (.int .i64 (xs.getD k 0)) := cells_ints HX.out k hlt
      have HG := hide (show xs.getD k 0 = xs[k] by simp [List.getD_eq_getElem?_getD, hkl])
      generalize xs.getD k 0 = x at g1 HG
      by_cases he : v = x
      · have t1 : (v == x) = true := by simpa using he
        have HE := hide he
        clear he
        go_wp2_with fail
        go_ret
        exact ⟨k, rfl, .inl ⟨k, hkl, rfl, by rw [← HG.out, HE.out], HNE.out⟩, rfl⟩
      · have t1 : (v == x) = false := by simpa using he
        go_wp2_with fail
        go_round
        case rel => exact ⟨k + 1, by omega, by go_num, fun j hj hjk => by
          by_cases e : j = k
          · subst e; rw [← HG.out]; exact fun h => he h.symm
          · exact HNE.out j hj (by omega)⟩
        case measure => simp [intOf]; omega
    · obtain rfl : k = n := by omega
      go_wp2_with fail
      go_ret
      exact ⟨-1, rfl, .inr ⟨rfl, fun hm => by obtain ⟨j, hj, e⟩ := List.getElem_of_mem hm; exact HNE.out j hj (by rw [← LX.out]; exact hj) e⟩, rfl⟩
theorem cont_not (A : Option Addr) (n c B : Nat) (xs : List Int) (v : Int) (w : World) (hx : Reads w B 1 A n (intsV xs)) (hn : n ≤ maxLen) (hv : v ∉ xs) :
    Calls Try.prog 14 #[.slice A n c, .int .i64 v] w fun e w' => e = .returned (.bool false) ∧ w = w' := by
  have H := hide (index_ints A n c B xs v w hx hn)
  have HV := hide hv
  clear hx hn hv
  go_enter Try.func14, Try.ntmps14
  go_wp2_with fail
  refine H.out.mono ?_
  rintro e w' ⟨z, rfl, hz, rfl⟩
  have h0 : z = -1 := by
    rcases hz with ⟨i, hi, rfl, h, _⟩ | ⟨h, _⟩
    · exact absurd (by rw [← h]; exact List.getElem_mem hi) HV.out
    · exact h
  subst h0
  clear hz
  go_wp2_with fail
  go_ret
  exact ⟨rfl, rfl⟩
end Go.Proofs.Ytikpdhkjkmbomaa
