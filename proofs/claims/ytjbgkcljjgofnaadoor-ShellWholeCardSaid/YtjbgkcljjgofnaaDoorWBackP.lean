/- Small plain facts for WordsBack. -/
import Derived.Test.YtjbgkcljjgofnaaDoorWRead
import Derived.Test.YtjbgkcljjgofnaaDoorWFit
import Derived.Lib.Join
namespace Go.Proofs.YtjbgkcljjgofnaaDoor
open Go.RowKit
set_option linter.unusedVariables false

def Small (s : List UInt8) (t : TokD) : Prop := t.parts.length ≤ s.length ∧ ∀ p ∈ t.parts, p.text.length ≤ s.length
section
variable {s : List UInt8}
theorem Fit.wordP : ∀ (k : Nat) (r r' : List UInt8) (ps ps' : List PartD), Fit ps r s → r.length ≤ s.length → Go.Proofs.YtjbgkcljjgofnaaDoor.wordP k r ps = .ok ps' r' → Fit ps' r' s := by
  intro k
  induction k with
  | zero => intro r r' ps ps' h _ hw; cases hw; exact h
  | succ k ih =>
    intro r r' ps ps' h hr hw
    simp only [Go.Proofs.YtjbgkcljjgofnaaDoor.wordP] at hw
    split at hw
    · cases hw; exact h
    · cases hw
    · rename_i hs
      have := (wordS_suf hs).2
      exact ih _ _ _ _ (h.wordS hr hs) (by omega) hw
theorem Fit.tok {ps : List PartD} {r : List UInt8} (h : Fit ps r s) : ps.length ≤ s.length ∧ ∀ p ∈ ps, p.text.length ≤ s.length := ⟨by have := h.1; omega, fun p hp => by have := h.2 p hp; omega⟩
theorem split_small (n : Nat) : ∀ (F : Nat) (r : List UInt8) (ts us : List TokD), r.length ≤ s.length → (∀ t ∈ ts, Small s t) → splitP F n r ts = .ok us → ∀ t ∈ us, Small s t := by
  intro F
  induction F with
  | zero => intro r ts us _ ho h; cases h; exact ho
  | succ F ih =>
    intro r ts us hr ho h
    simp only [splitP] at h
    split at h
    · cases h; exact ho
    · cases h
    · rename_i ts' r' hs
      have hl := (splitS_suf hs).2
      refine ih r' ts' us (by omega) ?_ h
      cases r with
      | nil => simp [splitS] at hs
      | cons c t =>
        simp only [splitS] at hs
        split at hs
        · cases hs; exact ho
        split at hs
        · cases hs
        split at hs
        · cases hs
          intro x hx
          rcases List.mem_append.1 hx with hx | hx
          · exact ho x hx
          · rw [List.mem_singleton] at hx
            subst hx
            exact ⟨Nat.zero_le _, fun p hp => by cases hp⟩
        split at hs
        · cases hs
        · rename_i hw
          cases hs
          intro x hx
          rcases List.mem_append.1 hx with hx | hx
          · exact ho x hx
          · rw [List.mem_singleton] at hx
            subst hx
            exact (Fit.wordP _ _ _ _ _ ⟨by simpa using hr, fun p hp => by cases hp⟩ hr hw).tok
theorem splitD_small {us : List TokD} (h : splitD s = .ok us) : ∀ t ∈ us, Small s t := split_small s.length _ s [] us (Nat.le_refl _) (fun t ht => by cases ht) h
end
theorem split_count (n : Nat) : ∀ (F : Nat) (r : List UInt8) (ts us : List TokD), splitP F n r ts = .ok us → us.length ≤ ts.length + r.length := by
  intro F
  induction F with
  | zero => intro r ts us h; cases h; omega
  | succ F ih =>
    intro r ts us h
    simp only [splitP] at h
    split at h
    · cases h; omega
    · cases h
    · rename_i ts' r' hs
      have hl := (splitS_suf hs).2
      have := ih r' ts' us h
      have ht : ts'.length ≤ ts.length + 1 := by
        cases r with
        | nil => simp [splitS] at hs
        | cons c t =>
          simp only [splitS] at hs
          split at hs
          · cases hs; omega
          split at hs
          · cases hs
          split at hs
          · cases hs; simp
          split at hs
          · cases hs
          · cases hs; simp
      omega
theorem splitD_count {s : List UInt8} {us : List TokD} (h : splitD s = .ok us) : us.length ≤ s.length := by
  have := split_count _ _ _ _ _ h
  simpa using this
theorem join_lib : ∀ l : List (List UInt8), Lib.join l [32] = joinS l := by
  intro l
  induction l with
  | nil => rfl
  | cons x l ih =>
    cases l with
    | nil => exact Lib.join_one x [32]
    | cons y l =>
      rw [Lib.join_cons, show joinS (x :: y :: l) = x ++ 32 :: joinS (y :: l) from rfl, ← ih, Lib.join_cons]
      simp [Lib.joinTail]
theorem join_len (N : Nat) : ∀ l : List (List UInt8), (∀ x ∈ l, x.length ≤ N) → (joinS l).length ≤ l.length * (N + 1) := by
  intro l
  induction l with
  | nil => intro _; simp [joinS]
  | cons x l ih =>
    intro h
    have h1 := h x (by simp)
    cases l with
    | nil => simp [joinS]; omega
    | cons y l =>
      have := ih (fun z hz => h z (by simp [hz]))
      rw [show joinS (x :: y :: l) = x ++ 32 :: joinS (y :: l) from rfl, List.length_append, List.length_cons, List.length_cons, Nat.succ_mul]
      omega
theorem split_two : splitD [97, 39, 98, 32, 99, 39, 36, 100, 124, 101] = .ok [⟨[], [⟨[97], false, false⟩, ⟨[98, 32, 99], false, true⟩, ⟨[100], true, false⟩], 0⟩, ⟨[124], [], 8⟩, ⟨[], [⟨[101], false, false⟩], 9⟩] := by kernel_rfl
end Go.Proofs.YtjbgkcljjgofnaaDoor
