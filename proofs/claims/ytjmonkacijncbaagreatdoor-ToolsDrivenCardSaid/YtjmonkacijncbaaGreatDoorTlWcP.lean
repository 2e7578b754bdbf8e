/- Words of a text, as bytes.FieldsFunc finds them: plain. -/
import Derived.Test.YtjmonkacijncbaaGreatDoorTlTurn
import Derived.Test.YtjmonkacijncbaaGreatDoorShelfD
import Derived.Test.YtjmonkacijncbaaGreatDoorShelfC
import Derived.Lib.DecodeN
namespace Go.Proofs.YtjmonkacijncbaaGreatDoor
open Go.RowKit
set_option linter.unusedVariables false

theorem decN_size (n b0 b1 b2 b3 : Nat) (hn : 0 < n) : 1 ≤ (Lib.decodeN n b0 b1 b2 b3).2 ∧ (Lib.decodeN n b0 b1 b2 b3).2 ≤ n := by
  unfold Lib.decodeN
  split
  · exact ⟨Nat.le_refl _, hn⟩
  · split
    · rename_i h
      split
      · exact ⟨by dsimp only; omega, by have := h.2.1; dsimp only; omega⟩
      · exact ⟨Nat.le_refl _, hn⟩
    · split
      · rename_i h
        split
        · exact ⟨by dsimp only; omega, by have := h.2.2.1; dsimp only; omega⟩
        · exact ⟨Nat.le_refl _, hn⟩
      · split
        · rename_i h
          split
          · exact ⟨by dsimp only; omega, by have := h.2.2.2.1; dsimp only; omega⟩
          · exact ⟨Nat.le_refl _, hn⟩
        · exact ⟨Nat.le_refl _, hn⟩
/-- The rune at a place, and how long it is. -/
def decP (b : Bs) (i : Nat) : Nat × Nat := Lib.decodeGo (str (b.drop i))
theorem decP_size (b : Bs) (i : Nat) (h : i < b.length) : 1 ≤ (decP b i).2 ∧ i + (decP b i).2 ≤ b.length := by
  have hz : (str (b.drop i)).size = b.length - i := by rw [str_size, List.length_drop]
  unfold decP Lib.decodeGo
  rw [if_neg (by omega), Lib.decode_at, hz]
  have := decN_size (b.length - i - 0) ((str (b.drop i)).get! 0).toNat ((str (b.drop i)).get! (0 + 1)).toNat ((str (b.drop i)).get! (0 + 2)).toNat ((str (b.drop i)).get! (0 + 3)).toNat (by omega)
  omega
def blankP (r : Nat) : Bool := r == 32 || decide (9 ≤ r) && decide (r ≤ 13)
/-- The words that begin and end: where it stands, where the word at hand began, what was found. -/
def ffP (b : Bs) : Nat → Nat → Option Nat → List (Nat × Nat) → List (Nat × Nat)
  | 0, _, _, acc => acc
  | q + 1, i, st, acc => if b.length ≤ i then (match st with | some s => acc ++ [(s, b.length)] | none => acc) else
    if blankP (decP b i).1 then (match st with | some s => ffP b q (i + (decP b i).2) none (acc ++ [(s, i)]) | none => ffP b q (i + (decP b i).2) none acc)
    else ffP b q (i + (decP b i).2) (some (st.getD i)) acc
theorem ffP_succ (b : Bs) (q i : Nat) (st : Option Nat) (acc : List (Nat × Nat)) : ffP b (q + 1) i st acc = if b.length ≤ i then (match st with | some s => acc ++ [(s, b.length)] | none => acc) else
    if blankP (decP b i).1 then (match st with | some s => ffP b q (i + (decP b i).2) none (acc ++ [(s, i)]) | none => ffP b q (i + (decP b i).2) none acc)
    else ffP b q (i + (decP b i).2) (some (st.getD i)) acc := rfl
def ffAll (b : Bs) : List (Nat × Nat) := ffP b (b.length + 1) 0 none []
/-- What the state is worth. -/
structure FfSt (b : Bs) (i : Nat) (st : Option Nat) (acc : List (Nat × Nat)) : Prop where
  hle : i ≤ b.length
  hall : ∃ q, b.length - i < q ∧ ffP b q i st acc = ffAll b
  hst : ∀ s, st = some s → s ≤ i
  hacc : ∀ x ∈ acc, x.1 ≤ x.2 ∧ x.2 ≤ b.length
  hfew : acc.length ≤ i
theorem FfSt.zero (b : Bs) : FfSt b 0 none [] := ⟨Nat.zero_le _, ⟨_, by omega, rfl⟩, fun s h => (by cases h), fun x h => (by cases h), Nat.le_refl _⟩
theorem FfSt.step {b : Bs} {i : Nat} {st : Option Nat} {acc : List (Nat × Nat)} (h : FfSt b i st acc) (hi : i < b.length) :
    (blankP (decP b i).1 = true → (∀ s, st = some s → FfSt b (i + (decP b i).2) none (acc ++ [(s, i)])) ∧ (st = none → FfSt b (i + (decP b i).2) none acc)) ∧
    (blankP (decP b i).1 = false → FfSt b (i + (decP b i).2) (some (st.getD i)) acc) := by
  have hz := decP_size b i hi
  obtain ⟨q, hq, he⟩ := h.hall
  obtain ⟨q, rfl⟩ : ∃ q', q = q' + 1 := ⟨q - 1, by omega⟩
  rw [ffP_succ, if_neg (by omega)] at he
  refine ⟨fun hb => ?_, fun hb => ?_⟩
  · rw [if_pos hb] at he
    refine ⟨fun s hs => ?_, fun hs => ?_⟩
    · rw [hs] at he
      refine ⟨hz.2, ⟨q, by omega, he⟩, fun s h => (by cases h), fun x hx => ?_, by rw [List.length_append]; have := h.hfew; simp; omega⟩
      rcases List.mem_append.1 hx with hx | hx
      · exact h.hacc x hx
      · simp only [List.mem_singleton] at hx
        subst hx
        exact ⟨h.hst s hs, by have := h.hle; exact this⟩
    · rw [hs] at he
      exact ⟨hz.2, ⟨q, by omega, he⟩, fun s h => (by cases h), h.hacc, by have := h.hfew; omega⟩
  · rw [if_neg (by rw [hb]; decide)] at he
    refine ⟨hz.2, ⟨q, by omega, he⟩, fun s hs => ?_, h.hacc, by have := h.hfew; omega⟩
    injection hs with hs
    subst hs
    cases hst : st with
    | none => simp
    | some s => have := h.hst s hst; simp; omega
theorem FfSt.done {b : Bs} {i : Nat} {st : Option Nat} {acc : List (Nat × Nat)} (h : FfSt b i st acc) (hi : b.length ≤ i) : (∀ s, st = some s → ffAll b = acc ++ [(s, b.length)] ∧ s ≤ b.length) ∧ (st = none → ffAll b = acc) := by
  obtain ⟨q, hq, he⟩ := h.hall
  obtain ⟨q, rfl⟩ : ∃ q', q = q' + 1 := ⟨q - 1, by omega⟩
  rw [ffP_succ, if_pos hi] at he
  exact ⟨fun s hs => by rw [hs] at he; exact ⟨he.symm, Nat.le_trans (h.hst s hs) h.hle⟩, fun hs => by rw [hs] at he; exact he.symm⟩
set_option maxRecDepth 100000 in
theorem blank_any (r : Nat) (hr : r ≤ 2000000) (w : World) : Calls Tryz.prog 42 #[.int .i32 (r : Int)] w fun e w' => e = .returned (.bool (blankP r)) ∧ w = w' := by
  have hb : blankP r = (r == 32 || decide (9 ≤ r) && decide (r ≤ 13)) := rfl
  by_cases h1 : r = 32
  · subst h1
    go_enter Tryz.func42, Tryz.ntmps42
    go_wp2_with fail
    go_ret
    exact ⟨rfl, rfl⟩
  · have t1 : ((r : Int) == 32) = false := beq_eq_false_iff_ne.2 (by omega)
    have t2 : (r == 32) = false := beq_eq_false_iff_ne.2 h1
    rw [hb, t2]
    by_cases h9 : 9 ≤ r
    · by_cases h13 : r ≤ 13
      · rw [decide_eq_true h9, decide_eq_true h13]
        have t3 : decide ((r : Int) ≤ 13) = true := decide_eq_true (by omega)
        have t4 : decide ((9 : Int) ≤ (r : Int)) = true := decide_eq_true (by omega)
        clear hb
        go_enter Tryz.func42, Tryz.ntmps42
        go_wp2_with fail
        go_ret
        exact ⟨rfl, rfl⟩
      · rw [decide_eq_true h9, decide_eq_false h13]
        have t3 : decide ((r : Int) ≤ 13) = false := decide_eq_false (by omega)
        have t4 : decide ((9 : Int) ≤ (r : Int)) = true := decide_eq_true (by omega)
        clear hb
        go_enter Tryz.func42, Tryz.ntmps42
        go_wp2_with fail
        go_ret
        exact ⟨rfl, rfl⟩
    · rw [decide_eq_false h9]
      have t4 : decide ((9 : Int) ≤ (r : Int)) = false := decide_eq_false (by omega)
      clear hb
      go_enter Tryz.func42, Tryz.ntmps42
      go_wp2_with fail
      go_ret
      exact ⟨rfl, rfl⟩
theorem decP_rune (b : Bs) (i : Nat) : (decP b i).1 ≤ 2000000 := by
  unfold decP Lib.decodeGo
  split
  · decide
  · rw [Lib.decode_at]
    unfold Lib.decodeN
    repeat' split
    all_goals (dsimp only; omega)
end Go.Proofs.YtjmonkacijncbaaGreatDoor
