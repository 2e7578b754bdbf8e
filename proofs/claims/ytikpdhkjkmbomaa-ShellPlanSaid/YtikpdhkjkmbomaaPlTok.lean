/- Descriptors as texts: a map[int]string that holds what tokens say. Plain theorems. -/
import Derived.Test.YtikpdhkjkmbomaaPlP
import Derived.Test.YtikpdhkjkmbomaaMapIS
import Derived.Test.YtikpdhkjkmbomaaItoa
namespace Go.Proofs.Ytikpdhkjkmbomaa
open Go.RowKit
set_option linter.unusedVariables false

def tokS : Tok → BsI
  | .no => []
  | .old i => [111, 108, 100] ++ digit i
  | .rd k => [114] ++ digit k
  | .wr k => [119] ++ digit k
  | .fin => [102, 105, 108, 101, 32, 105, 110, 49, 32, 48]
  | .fout => [102, 105, 108, 101, 32, 111, 117, 116, 50, 32, 53]
  | .foutm => [102, 105, 108, 101, 32, 111, 117, 116, 50, 32, 57]
theorem tokS_nil (t : Tok) : tokS t = [] ↔ t = .no := by cases t <;> simp [tokS]
def fdF (f : FdT) : Int → Option BsI := fun x => if atT f x = .no then none else some (tokS (atT f x))
theorem fdF_get (f : FdT) (x : Int) : (fdF f x).getD [] = tokS (atT f x) := by
  unfold fdF
  split
  · rename_i h; rw [h]; rfl
  · rfl
def cntT (f : FdT) : Nat := (f.filter fun t => decide (t ≠ .no)).length
theorem cntT_le (f : FdT) : cntT f ≤ f.length := List.length_filter_le _ _
theorem atT_set (f : FdT) (n : Nat) (hn : n < f.length) (t : Tok) (x : Int) : atT (f.set n t) x = if x = (n : Int) then t else atT f x := by
  unfold atT
  by_cases h0 : 0 ≤ x
  · rw [if_pos h0, if_pos h0]
    by_cases e : x = (n : Int)
    · subst e
      rw [if_pos rfl, Int.toNat_natCast, List.getD_eq_getElem?_getD, List.getElem?_set_self hn]
      rfl
    · rw [if_neg e, List.getD_eq_getElem?_getD, List.getElem?_set_ne (by omega), ← List.getD_eq_getElem?_getD]
  · rw [if_neg h0, if_neg h0, if_neg (by omega)]
theorem fdF_set (f : FdT) (n : Nat) (hn : n < f.length) (t : Tok) (ht : t ≠ .no) : updZ (fdF f) n (some (tokS t)) = fdF (f.set n t) := by
  funext x
  unfold updZ fdF
  rw [atT_set f n hn]
  by_cases e : x = (n : Int)
  · rw [if_pos e, if_pos e, if_neg ht]
  · rw [if_neg e, if_neg e]
theorem fdF_del (f : FdT) (n : Nat) (hn : n < f.length) : updZ (fdF f) n none = fdF (f.set n .no) := by
  funext x
  unfold updZ fdF
  rw [atT_set f n hn]
  by_cases e : x = (n : Int)
  · rw [if_pos e, if_pos e, if_pos rfl]
  · rw [if_neg e, if_neg e]
theorem cnt_set : ∀ (f : FdT) (n : Nat) (t : Tok), n < f.length → t ≠ .no → cntT (f.set n t) = if f.getD n .no = .no then cntT f + 1 else cntT f := by
  intro f
  induction f with
  | nil => intro n t hn; cases hn
  | cons a f ih =>
    intro n t hn ht
    cases n with
    | zero =>
      simp only [List.set_cons_zero, cntT, List.getD_cons_zero, List.filter_cons]
      rw [if_pos (by simpa using ht)]
      by_cases ha : a = .no
      · subst ha; simp
      · simp [ha]
    | succ n =>
      have h := ih n t (by simpa using hn) ht
      simp only [List.set_cons_succ, List.getD_cons_succ]
      unfold cntT at h ⊢
      by_cases ha : a = .no
      · subst ha
        rw [List.filter_cons_of_neg (by simp), List.filter_cons_of_neg (by simp)]
        exact h
      · rw [List.filter_cons_of_pos (by simpa using ha), List.filter_cons_of_pos (by simpa using ha), List.length_cons, List.length_cons, h]
        split <;> omega
theorem cnt_del : ∀ (f : FdT) (n : Nat), n < f.length → cntT (f.set n .no) = if f.getD n .no = .no then cntT f else cntT f - 1 := by
  intro f
  induction f with
  | nil => intro n hn; cases hn
  | cons a f ih =>
    intro n hn
    cases n with
    | zero =>
      simp only [List.set_cons_zero, cntT, List.getD_cons_zero, List.filter_cons]
      by_cases ha : a = .no
      · subst ha; simp
      · simp [ha]
    | succ n =>
      have h := ih n (by simpa using hn)
      have hpos : f.getD n .no ≠ .no → 0 < cntT f := fun hne => by
        have hn' : n < f.length := by simpa using hn
        rw [List.getD_eq_getElem?_getD, List.getElem?_eq_getElem hn'] at hne
        exact List.length_pos_of_mem (List.mem_filter.2 ⟨List.getElem_mem hn', by simpa using hne⟩)
      simp only [List.set_cons_succ, List.getD_cons_succ]
      unfold cntT at h hpos ⊢
      by_cases ha : a = .no
      · subst ha
        rw [List.filter_cons_of_neg (by simp), List.filter_cons_of_neg (by simp)]
        exact h
      · rw [List.filter_cons_of_pos (by simpa using ha), List.filter_cons_of_pos (by simpa using ha), List.length_cons, List.length_cons, h]
        by_cases hg : f.getD n .no = .no
        · rw [if_pos hg, if_pos hg]
        · rw [if_neg hg, if_neg hg]
          have := hpos hg
          omega
theorem atT_getD (f : FdT) (n : Nat) : atT f (n : Int) = f.getD n .no := by unfold atT; rw [if_pos (Int.natCast_nonneg n), Int.toNat_natCast]
theorem fdF_some (f : FdT) (x : Int) : (fdF f x).isSome = decide (atT f x ≠ .no) := by
  unfold fdF
  by_cases h : atT f x = .no
  · simp [h]
  · simp [h]
/-- Block b is a map that holds what f says. -/
structure FdAt (w : World) (b K : Nat) (f : FdT) : Prop where
  m : MapIS w b K (fdF f) (cntT f)
  len : f.length = 8
section
variable {w w' : World} {b K : Nat} {f : FdT}
theorem FdAt.kept {row : Option Nat} (h : FdAt w b K f) (hg : w.grownBy w' row) (hne : some b ≠ row) : FdAt w' b K f := ⟨h.m.kept hg hne, h.len⟩
theorem FdAt.ext (h : FdAt w b K f) (hx : Ext w w') : FdAt w' b K f := ⟨h.m.ext hx, h.len⟩
theorem FdAt.far (h : FdAt w b K f) {p : Addr} (hp : b ≠ p.block) (u : Value) : FdAt (w.setCell p u) b K f := ⟨h.m.far hp u, h.len⟩
theorem FdAt.mono {K' : Nat} (h : FdAt w b K f) (hK : K ≤ K') : FdAt w b K' f := ⟨h.m.mono hK, h.len⟩
theorem FdAt.look (h : FdAt w b K f) (x : Int) (h1 : -9223372036854775808 ≤ x) (h2 : x ≤ 9223372036854775807) : (Instr.lookup 44 (.map (some b)) (.int .i64 x) false).run Try.prog w = .ok (.string (str (tokS (atT f x)))) w := by
  have := h.m.look x h1 h2
  rwa [fdF_get] at this
theorem FdAt.put (h : FdAt w b K f) (hK : K < maxLen) (n : Nat) (hn : n < 8) (t : Tok) (ht : t ≠ .no) (hl : (tokS t).length ≤ maxLen) :
    ∃ w', (Instr.mapUpdate 44 (.map (some b)) (.int .i64 (n : Int)) (.string (str (tokS t)))).run Try.prog w = .ok () w' ∧ FdAt w' b (K + 1) (f.set n t) ∧ w.grownBy w' (some b) := by
  obtain ⟨w', hrun, hm, hg⟩ := h.m.store hK (n : Int) (by omega) (by omega) (tokS t) hl
  have hn' : n < f.length := by rw [h.len]; exact hn
  rw [fdF_set f n hn' t ht, fdF_some, atT_getD] at hm
  refine ⟨w', hrun, ⟨?_, by simp [h.len]⟩, hg⟩
  rw [cnt_set f n t hn' ht]
  by_cases hg : f.getD n .no = .no
  · rw [if_pos hg]
    rw [hg] at hm
    exact hm
  · rw [if_neg hg]
    rw [if_pos (by simpa using hg)] at hm
    exact hm
theorem FdAt.del (h : FdAt w b K f) (n : Nat) (hn : n < 8) (ty : TypeId) :
    ∃ w', (Builtin.delete_ #[44, 3] ty #[.map (some b), .int .i64 (n : Int)]).run Try.prog w = .ok (.tuple #[]) w' ∧ FdAt w' b K (f.set n .no) ∧ w.grownBy w' (some b) := by
  obtain ⟨w', hrun, hm, hg⟩ := h.m.drop (n : Int) (by omega) (by omega) ty
  have hn' : n < f.length := by rw [h.len]; exact hn
  rw [fdF_del f n hn', fdF_some, atT_getD] at hm
  refine ⟨w', hrun, ⟨?_, by simp [h.len]⟩, hg⟩
  rw [cnt_del f n hn']
  by_cases hg : f.getD n .no = .no
  · rw [if_pos hg]
    rw [hg] at hm
    exact hm
  · rw [if_neg hg]
    rw [if_pos (by simpa using hg)] at hm
    exact hm
theorem FdAt.putI (h : FdAt w b K f) (hK : K < maxLen) (x : Int) (h0 : 0 ≤ x) (h8 : x < 8) (t : Tok) (ht : t ≠ .no) (hl : (tokS t).length ≤ maxLen) :
    ∃ w', (Instr.mapUpdate 44 (.map (some b)) (.int .i64 x) (.string (str (tokS t)))).run Try.prog w = .ok () w' ∧ FdAt w' b (K + 1) (f.set x.toNat t) ∧ w.grownBy w' (some b) := by
  obtain ⟨n, rfl⟩ := Int.eq_ofNat_of_zero_le h0
  exact h.put hK n (by omega) t ht hl
theorem FdAt.delI (h : FdAt w b K f) (x : Int) (h0 : 0 ≤ x) (h8 : x < 8) (ty : TypeId) :
    ∃ w', (Builtin.delete_ #[44, 3] ty #[.map (some b), .int .i64 x]).run Try.prog w = .ok (.tuple #[]) w' ∧ FdAt w' b K (f.set x.toNat .no) ∧ w.grownBy w' (some b) := by
  obtain ⟨n, rfl⟩ := Int.eq_ofNat_of_zero_le h0
  exact h.del n (by omega) ty
theorem FdAt.lenI (h : FdAt w b K f) (ty : TypeId) : (Builtin.len_ #[44] ty #[.map (some b)]).run Try.prog w = .ok (.int .i64 (cntT f : Int)) w := h.m.len ty
theorem tokS_len (t : Tok) : (tokS t).length ≤ maxLen := by
  have h : (tokS t).length ≤ 12 := by cases t <;> simp [tokS, digit]
  exact Nat.le_trans h (by simp [maxLen])
theorem FdAt.cnt (h : FdAt w b K f) : cntT f ≤ 8 := by have := cntT_le f; rw [h.len] at this; exact this
end
/-- The least place that is free. -/
theorem least_at : ∀ (f : FdT), leastT f < f.length → f.getD (leastT f) .no = .no := by
  intro f
  induction f with
  | nil => intro h; cases h
  | cons a f ih =>
    intro h
    cases a with
    | no => rfl
    | _ => exact ih (by simpa [leastT] using h)
theorem least_below : ∀ (f : FdT) (j : Nat), j < leastT f → j < f.length ∧ f.getD j .no ≠ .no := by
  intro f
  induction f with
  | nil => intro j h; cases h
  | cons a f ih =>
    intro j h
    cases a with
    | no => cases h
    | _ =>
      cases j with
      | zero => exact ⟨by simp, by simp⟩
      | succ j =>
        have := ih j (by simpa [leastT] using h)
        exact ⟨by simpa using this.1, by simpa using this.2⟩
end Go.Proofs.Ytikpdhkjkmbomaa
