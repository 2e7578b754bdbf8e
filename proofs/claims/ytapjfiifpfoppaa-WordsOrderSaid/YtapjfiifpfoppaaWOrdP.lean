/- The plain law WordsOrder. Plain theorems, no condition. -/
import Derived.Test.YtapjfiifpfoppaaWPlain
namespace Go.Proofs.Ytapjfiifpfoppaa
open Go.RowKit
set_option linter.unusedVariables false

structure Ord (s : List UInt8) (ts : List TokD) (hi : Nat) : Prop where
  each : ∀ (i : Nat) (t : TokD), ts[i]? = some t → t.at_ < hi ∧ ∃ c, s[t.at_]? = some c ∧ c.toNat ≠ 32
  next : ∀ (i : Nat) (t t' : TokD), ts[i]? = some t → ts[i + 1]? = some t' → t.at_ < t'.at_
theorem Ord.nil (s : List UInt8) (hi : Nat) : Ord s [] hi := ⟨fun i t h => by simp at h, fun i t t' h => by simp at h⟩
section
variable {s : List UInt8} {ts : List TokD} {hi hi' : Nat}
theorem Ord.mono (h : Ord s ts hi) (hh : hi ≤ hi') : Ord s ts hi' := ⟨fun i t e => ⟨Nat.lt_of_lt_of_le (h.each i t e).1 hh, (h.each i t e).2⟩, h.next⟩
theorem Ord.more (h : Ord s ts hi) {t : TokD} {c : UInt8} (ht : t.at_ = hi) (hc : s[hi]? = some c) (hn : c.toNat ≠ 32) : Ord s (ts ++ [t]) (hi + 1) := by
  constructor
  · intro i u hu
    rw [List.getElem?_append] at hu
    split at hu
    · exact ⟨by have := (h.each i u hu).1; omega, (h.each i u hu).2⟩
    · have : i - ts.length = 0 := by
        rcases Nat.eq_zero_or_pos (i - ts.length) with e | e
        · exact e
        · rw [List.getElem?_eq_none (by simp; omega)] at hu; cases hu
      rw [this] at hu
      simp at hu
      subst hu
      exact ⟨by omega, c, by rw [ht]; exact hc, hn⟩
  · intro i u u' hu hu'
    have hl := (List.getElem?_eq_some_iff.1 hu').1
    simp at hl
    rw [List.getElem?_append_left (by omega)] at hu
    rw [List.getElem?_append] at hu'
    split at hu'
    · exact h.next i u u' hu hu'
    · have : i + 1 - ts.length = 0 := by omega
      rw [this] at hu'
      simp at hu'
      subst hu'
      have := (h.each i u hu).1
      omega
end
theorem suf_at {s r : List UInt8} {c : UInt8} {t : List UInt8} (h : r <:+ s) (hr : r = c :: t) : s[s.length - r.length]? = some c := by
  have := (drop_of_suf h).2
  rw [← List.head?_drop, this, hr]
  rfl
theorem split_ord (s : List UInt8) : ∀ (F : Nat) (r : List UInt8) (ts us : List TokD), r <:+ s → Ord s ts (s.length - r.length) → splitP F s.length r ts = .ok us → ∃ hi, Ord s us hi := by
  intro F
  induction F with
  | zero => intro r ts us hr ho h; cases h; exact ⟨_, ho⟩
  | succ F ih =>
    intro r ts us hr ho h
    simp only [splitP] at h
    split at h
    · cases h
      exact ⟨_, ho⟩
    · cases h
    · rename_i ts' r' hs
      have hsf := splitS_suf hs
      refine ih r' ts' us (hsf.1.trans hr) ?_ h
      have hle := hr.length_le
      cases r with
      | nil => simp [splitS] at hs
      | cons c t =>
        have hat := suf_at hr rfl
        simp only [splitS] at hs
        split at hs
        · cases hs
          exact ho.mono (by simp; omega)
        split at hs
        · cases hs
        split at hs
        · cases hs
          exact (ho.more rfl hat (by assumption)).mono (by have := hsf.2; omega)
        split at hs
        · cases hs
        · cases hs
          exact (ho.more rfl hat (by assumption)).mono (by have := hsf.2; omega)
theorem split_bad (s : List UInt8) : ∀ (F : Nat) (r : List UInt8) (ts : List TokD) (a : Nat), r <:+ s → splitP F s.length r ts = .bad a → a < s.length := by
  intro F
  induction F with
  | zero => intro r ts a hr h; cases h
  | succ F ih =>
    intro r ts a hr h
    simp only [splitP] at h
    split at h
    · cases h
    · rename_i k hs
      cases h
      have hle := hr.length_le
      cases r with
      | nil => simp [splitS] at hs
      | cons c t =>
        simp only [splitS] at hs
        split at hs
        · cases hs
        split at hs
        · cases hs
        split at hs
        · cases hs
        split at hs
        · rename_i hw
          cases hs
          have := wordP_bad _ _ _ _ hw
          omega
        · cases hs
    · rename_i ts' r' hs
      exact ih r' ts' a ((splitS_suf hs).1.trans hr) h
theorem splitD_ord {s : List UInt8} {us : List TokD} (h : splitD s = .ok us) : ∃ hi, Ord s us hi := split_ord s _ s [] us (List.suffix_refl _) (Ord.nil _ _) h
theorem splitD_bad {s : List UInt8} {a : Nat} (h : splitD s = .bad a) : a < s.length := split_bad s _ s [] a (List.suffix_refl _) h
theorem split_one : splitD [32, 97, 32, 32, 98] = .ok [⟨[], [⟨[97], false, false⟩], 1⟩, ⟨[], [⟨[98], false, false⟩], 4⟩] := by kernel_rfl
end Go.Proofs.Ytapjfiifpfoppaa
