/- Things that are made, held, dropped and done away with: the state behind records. No program in sight. -/
import Derived.Test.YtlmcahgffakoiaaTracePlain
import Derived.Test.YtlmcahgffakoiaaReachPlain
namespace Go.Proofs.Ytlmcahgffakoiaa
open Go.RowKit

structure RefSt where
  there : Nat → Bool
  later : Nat → Bool
  held : Nat → Int
def okS (s : RefSt) (r : RecD) : Bool :=
  if r.k = 5 then !s.there r.o.toNat else if r.k = 6 then decide (0 < s.held r.o.toNat) else if r.k = 7 then decide (0 < s.held r.o.toNat)
  else if r.k = 8 then (s.there r.o.toNat && decide (s.held r.o.toNat = 0) && !s.later r.o.toNat) else if r.k = 9 then s.later r.o.toNat else true
def stepS (s : RefSt) (r : RecD) : RefSt :=
  if r.k = 5 then ⟨updN s.there r.o.toNat true, updN s.later r.o.toNat false, updN s.held r.o.toNat 1⟩
  else if r.k = 6 then ⟨s.there, s.later, updN s.held r.o.toNat (s.held r.o.toNat + 1)⟩
  else if r.k = 7 then ⟨s.there, s.later, updN s.held r.o.toNat (s.held r.o.toNat - 1)⟩
  else if r.k = 8 then ⟨s.there, updN s.later r.o.toNat true, s.held⟩
  else if r.k = 9 then ⟨updN s.there r.o.toNat false, updN s.later r.o.toNat false, s.held⟩
  else s
def st0 : RefSt := ⟨fun _ => false, fun _ => false, fun _ => 0⟩
def stS (l : List RecD) : RefSt := l.foldl stepS st0
theorem stS_snoc (l : List RecD) (r : RecD) : stS (l ++ [r]) = stepS (stS l) r := by simp [stS]
def CleanS (l : List RecD) (k : Nat) : Prop := ∀ i (h : i < l.length), i < k → okS (stS (l.take i)) l[i] = true
theorem CleanS.snoc {l : List RecD} {r : RecD} (h : CleanS l l.length) (hr : okS (stS l) r = true) : CleanS (l ++ [r]) (l ++ [r]).length := by
  intro i hi _
  by_cases hl : i < l.length
  · rw [List.getElem_append_left hl, List.take_append_of_le_length (by omega)]
    exact h i hl hl
  · have : i = l.length := by simp at hi; omega
    subst this
    simpa using hr
theorem held_bound (l : List RecD) (x : Nat) : -(l.length : Int) ≤ (stS l).held x ∧ (stS l).held x ≤ l.length := by
  have key : ∀ (l : List RecD) (s : RefSt) (B : Int), 0 ≤ B → (∀ x, -B ≤ s.held x ∧ s.held x ≤ B) → ∀ x, -(B + l.length) ≤ (l.foldl stepS s).held x ∧ (l.foldl stepS s).held x ≤ B + l.length := by
    intro l
    induction l with
    | nil => intro s B hB h x; simpa using h x
    | cons r l ih =>
      intro s B hB h x
      rw [List.foldl_cons]
      have h1 : ∀ x, -(B + 1) ≤ (stepS s r).held x ∧ (stepS s r).held x ≤ B + 1 := by
        intro y
        have hy := h y
        have ho := h r.o.toNat
        unfold stepS
        repeat' split
        all_goals ((try dsimp only [updN]); first | omega | (split <;> omega))
      have := ih _ (B + 1) (by omega) h1 x
      simp only [List.length_cons]
      omega
  have := key l st0 0 (by omega) (fun _ => by simp [st0]) x
  simp only [Int.zero_add] at this
  exact this
def cntL (s : RefSt) (k : Nat) : List (Nat × Int) := (setL s.there k).map fun o => (o, s.held o)
def cntC (p : Nat × Int) : List Value := [.int .i64 (p.1 : Int), .int .i64 p.2]
def cntsV (l : List (Nat × Int)) : List Value := l.flatMap cntC
theorem cntC_len (p : Nat × Int) : (cntC p).length = 2 := rfl
theorem cntsV_append (a b : List (Nat × Int)) : cntsV (a ++ b) = cntsV a ++ cntsV b := by simp [cntsV]
theorem cnt_cells {w : World} {B n b off : Nat} {l : List (Nat × Int)} (h : Reads w B 2 (some ⟨b, off, none⟩) n (cntsV l)) (i : Nat) (hi : i < n) (hl : i < l.length) :
    w.cell? ⟨b, off + i * 2, none⟩ = some (.int .i64 (l[i].1 : Int)) ∧ w.cell? ⟨b, off + i * 2 + 1, none⟩ = some (.int .i64 l[i].2) :=
  ⟨Reads.elem cntC_len h i hl (by omega) 0 (by omega) rfl, Reads.elem cntC_len h i hl (by omega) 1 (by omega) rfl⟩
theorem cntL_succ (s : RefSt) (k : Nat) : cntL s (k + 1) = cntL s k ++ if s.there k = true then [(k, s.held k)] else [] := by
  unfold cntL
  rw [setL_succ, List.map_append]
  by_cases h : s.there k = true <;> simp [h]
theorem cntL_length (s : RefSt) (k : Nat) : (cntL s k).length = (setL s.there k).length := by simp [cntL]
theorem len_del (M : Nat → Bool) (n : Nat) (hM : M n = true) : ∀ k, (setL (updN M n false) k).length + (if n < k then 1 else 0) = (setL M k).length
  | 0 => by simp [setL]
  | k + 1 => by
    rw [setL_succ, setL_succ, List.length_append, List.length_append, ← len_del M n hM k]
    by_cases h : k = n
    · subst h
      simp [updN, hM]
    · rw [updN_other _ _ _ _ h]
      by_cases h1 : n < k
      · simp [h1, show n < k + 1 by omega]; omega
      · simp [h1, show ¬ n < k + 1 by omega]
end Go.Proofs.Ytlmcahgffakoiaa
