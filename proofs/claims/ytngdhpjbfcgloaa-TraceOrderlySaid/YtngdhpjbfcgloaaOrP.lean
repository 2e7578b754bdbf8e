/- Orders of locks, in plain words: what Order gathers, and that it rises where everybody takes locks rising. Plain theorems, no program in sight. -/
import Derived.Test.YtngdhpjbfcgloaaTracePlain
import Derived.Test.YtngdhpjbfcgloaaRingP
namespace Go.Proofs.Ytngdhpjbfcgloaa
set_option linter.unusedVariables false

theorem snoc_ind {α : Type} {m : List α → Prop} (h0 : m []) (h1 : ∀ l r, m l → m (l ++ [r])) (l : List α) : m l := by
  have key : ∀ k : List α, m k.reverse := by
    intro k
    induction k with
    | nil => exact h0
    | cons a k ih => rw [List.reverse_cons]; exact h1 _ _ ih
  have := key l.reverse
  rwa [List.reverse_reverse] at this
def heldS (t : Int) (o : List Int) (r : RecD) : List Int := if r.t = t then (if r.k = 1 then o ++ [r.o] else if r.k = 2 then o.erase r.o else o) else o
def heldF (l : List RecD) (t : Int) : List Int := l.foldl (heldS t) []
theorem heldF_snoc (l : List RecD) (r : RecD) (t : Int) : heldF (l ++ [r]) t = heldS t (heldF l t) r := by simp [heldF]
theorem heldF_len (l : List RecD) (t : Int) : (heldF l t).length ≤ l.length := by
  induction l using snoc_ind with
  | h0 => simp [heldF]
  | h1 l r ih =>
    rw [heldF_snoc]
    unfold heldS
    simp only [List.length_append, List.length_singleton]
    split
    · split
      · simp; omega
      · split
        · have := List.length_erase_le (a := r.o) (l := heldF l t); omega
        · omega
    · omega
theorem heldF_mem (l : List RecD) (t : Int) : ∀ x ∈ heldF l t, ∃ r ∈ l, r.k = 1 ∧ r.o = x := by
  induction l using snoc_ind with
  | h0 => intro x hx; simp [heldF] at hx
  | h1 l r ih =>
    intro x hx
    rw [heldF_snoc] at hx
    unfold heldS at hx
    have up : x ∈ heldF l t → ∃ q ∈ l ++ [r], q.k = 1 ∧ q.o = x := fun h => by
      obtain ⟨q, hq, h2⟩ := ih x h
      exact ⟨q, by simp [hq], h2⟩
    split at hx
    · split at hx
      · rename_i h1
        rcases List.mem_append.1 hx with h | h
        · exact up h
        · exact ⟨r, by simp, h1, (List.mem_singleton.1 h).symm⟩
      · split at hx
        · exact up (List.mem_of_mem_erase hx)
        · exact up hx
    · exact up hx
/-- A pair of locks: held, taken. -/
abbrev EdI := Int × Int
def outS (l : List RecD) (r : RecD) : List EdI := if r.k = 1 then (heldF l r.t).map fun h => (h, r.o) else []
def outF : List RecD → List RecD → List EdI
  | _, [] => []
  | p, r :: l => outS p r ++ outF (p ++ [r]) l
theorem outF_snoc (l : List RecD) (r : RecD) : ∀ p, outF p (l ++ [r]) = outF p l ++ outS (p ++ l) r := by
  induction l with
  | nil => intro p; simp [outF]
  | cons x l ih => intro p; simp [outF, ih, List.append_assoc]
/-- What Order gathers. -/
def outL (l : List RecD) : List EdI := outF [] l
theorem outL_snoc (l : List RecD) (r : RecD) : outL (l ++ [r]) = outL l ++ outS l r := by unfold outL; rw [outF_snoc]; rfl
theorem outS_len (l : List RecD) (r : RecD) : (outS l r).length ≤ l.length := by
  unfold outS
  split
  · rw [List.length_map]; exact heldF_len l r.t
  · simp
theorem outL_len (l : List RecD) : (outL l).length ≤ l.length * l.length := by
  induction l using snoc_ind with
  | h0 => simp [outL, outF]
  | h1 l r ih =>
    rw [outL_snoc, List.length_append]
    have := outS_len l r
    simp only [List.length_append, List.length_singleton]
    have e : (l.length + 1) * (l.length + 1) = l.length * l.length + (2 * l.length + 1) := by rw [Nat.add_mul, Nat.mul_add]; omega
    omega
/-- What the harness lets through: takes that rise, and all that is let go. -/
def risS (st : (Int → Int) × List RecD) (r : RecD) : (Int → Int) × List RecD :=
  if r.k = 1 ∧ r.o + 1 > st.1 r.t then (fun x => if x = r.t then r.o + 1 else st.1 x, st.2 ++ [r]) else if r.k = 2 then (st.1, st.2 ++ [r]) else st
def risF (l : List RecD) : (Int → Int) × List RecD := l.foldl risS (fun _ => 0, [])
theorem risF_snoc (l : List RecD) (r : RecD) : risF (l ++ [r]) = risS (risF l) r := by simp [risF]
theorem ris_len (l : List RecD) : (risF l).2.length ≤ l.length := by
  induction l using snoc_ind with
  | h0 => simp [risF]
  | h1 l r ih =>
    rw [risF_snoc]
    unfold risS
    simp only [List.length_append, List.length_singleton]
    split
    · simp; omega
    · split
      · simp; omega
      · omega
theorem ris_mem (l : List RecD) : ∀ r ∈ (risF l).2, r ∈ l := by
  induction l using snoc_ind with
  | h0 => intro r hr; simp [risF] at hr
  | h1 l r ih =>
    intro q hq
    rw [risF_snoc] at hq
    unfold risS at hq
    split at hq
    · rcases List.mem_append.1 hq with h | h
      · simp [ih q h]
      · rw [List.mem_singleton.1 h]; simp
    · split at hq
      · rcases List.mem_append.1 hq with h | h
        · simp [ih q h]
        · rw [List.mem_singleton.1 h]; simp
      · simp [ih q hq]
theorem ris_inv (l : List RecD) : (∀ t, ∀ h ∈ heldF (risF l).2 t, h + 1 ≤ (risF l).1 t) ∧ ∀ e ∈ outL (risF l).2, e.1 < e.2 := by
  induction l using snoc_ind with
  | h0 => exact ⟨fun t h hh => by simp [risF, heldF] at hh, fun e he => by simp [risF, outL, outF] at he⟩
  | h1 l r ih =>
    rw [risF_snoc]
    obtain ⟨i1, i2⟩ := ih
    generalize risF l = st at *
    unfold risS
    split
    · rename_i hc
      refine ⟨fun t h hh => ?_, fun e he => ?_⟩
      · dsimp only at hh ⊢
        rw [heldF_snoc] at hh
        unfold heldS at hh
        by_cases ht : r.t = t
        · rw [if_pos ht, if_pos hc.1] at hh
          rw [if_pos ht.symm]
          rcases List.mem_append.1 hh with h' | h'
          · have := i1 t h h'
            rw [ht] at hc
            omega
          · rw [List.mem_singleton.1 h']; omega
        · rw [if_neg ht] at hh
          rw [if_neg (fun e => ht e.symm)]
          exact i1 t h hh
      · dsimp only at he
        rw [outL_snoc] at he
        rcases List.mem_append.1 he with h' | h'
        · exact i2 e h'
        · unfold outS at h'
          rw [if_pos hc.1] at h'
          obtain ⟨x, hx, rfl⟩ := List.mem_map.1 h'
          have := i1 _ x hx
          dsimp only
          omega
    · split
      · rename_i hk
        refine ⟨fun t h hh => ?_, fun e he => ?_⟩
        · dsimp only at hh ⊢
          rw [heldF_snoc] at hh
          unfold heldS at hh
          split at hh
          · (try rw [if_neg (by omega)] at hh); (try rw [if_pos hk] at hh)
            exact i1 t h (List.mem_of_mem_erase hh)
          · exact i1 t h hh
        · dsimp only at he
          rw [outL_snoc] at he
          rcases List.mem_append.1 he with h' | h'
          · exact i2 e h'
          · unfold outS at h'
            rw [if_neg (by omega)] at h'
            cases h'
      · exact ⟨i1, i2⟩
theorem outL_mem (l : List RecD) : ∀ e ∈ outL l, (∃ r ∈ l, r.o = e.1) ∧ ∃ r ∈ l, r.o = e.2 := by
  induction l using snoc_ind with
  | h0 => intro e he; simp [outL, outF] at he
  | h1 l r ih =>
    intro e he
    rw [outL_snoc] at he
    rcases List.mem_append.1 he with h' | h'
    · obtain ⟨⟨a, ha, ha2⟩, b, hb, hb2⟩ := ih e h'
      exact ⟨⟨a, by simp [ha], ha2⟩, b, by simp [hb], hb2⟩
    · unfold outS at h'
      split at h'
      · obtain ⟨x, hx, rfl⟩ := List.mem_map.1 h'
        obtain ⟨q, hq, -, hq2⟩ := heldF_mem l r.t x hx
        exact ⟨⟨q, by simp [hq], hq2⟩, r, by simp, rfl⟩
      · cases h'
/-- Where all edges rise there is no ring. -/
theorem ring_none (N : Nat → List Nat) (r : List Nat) (h : RingOk N r) (hN : ∀ a b, b ∈ N a → a < b) : r = [] := by
  obtain ⟨_, _, h3⟩ := h
  cases hr : r.length with
  | zero => exact List.eq_nil_of_length_eq_zero hr
  | succ m =>
    exfalso
    have up : ∀ k, k < r.length → (r.getD 0 0) + k ≤ r.getD k 0 := by
      intro k
      induction k with
      | zero => intro _; omega
      | succ k ih =>
        intro hk
        have i1 := ih (by omega)
        have e : (k + 1) % r.length = k + 1 := Nat.mod_eq_of_lt hk
        have := hN _ _ (h3 k r[k] r[k + 1] (List.getElem?_eq_getElem (by omega)) (by rw [e]; exact List.getElem?_eq_getElem hk))
        have g1 : r.getD (k + 1) 0 = r[k + 1] := by simp [List.getD_eq_getElem?_getD, hk]
        have g2 : r.getD k 0 = r[k] := by simp [List.getD_eq_getElem?_getD, show k < r.length by omega]
        rw [g1]
        rw [g2] at i1
        omega
    have hm : m < r.length := by omega
    have i1 := up m hm
    have e : (m + 1) % r.length = 0 := by rw [hr]; exact Nat.mod_self _
    have := hN _ _ (h3 m r[m] r[0] (List.getElem?_eq_getElem hm) (by rw [e]; exact List.getElem?_eq_getElem (by omega)))
    have g1 : r.getD m 0 = r[m] := by simp [List.getD_eq_getElem?_getD, hm]
    have g2 : r.getD 0 0 = r[0] := by simp [List.getD_eq_getElem?_getD, show 0 < r.length by omega]
    rw [g1, g2] at i1
    omega
end Go.Proofs.Ytngdhpjbfcgloaa
