/- Slices of structs that read as lists, for any struct of one-cell fields; a cell of an owned row written. Plain theorems. -/
import Derived.Test.YthmojneobkaolaaGreatDoorMem
namespace Go.Proofs.YthmojneobkaolaaGreatDoor
open Go.RowKit

section
variable {α : Type} {k : Nat} {f : α → List Value}
theorem flat_length (hf : ∀ x, (f x).length = k) (l : List α) : (l.flatMap f).length = l.length * k := by
  induction l with
  | nil => simp
  | cons r l ih => rw [List.flatMap_cons, List.length_append, ih, hf, List.length_cons, Nat.succ_mul]; omega
theorem flat_get (hf : ∀ x, (f x).length = k) (l : List α) (i j : Nat) (hi : i < l.length) (hj : j < k) : (l.flatMap f)[i * k + j]? = (f l[i])[j]? := by
  induction l generalizing i with
  | nil => simp at hi
  | cons r l ih =>
    rw [List.flatMap_cons]
    cases i with
    | zero => rw [Nat.zero_mul, Nat.zero_add, List.getElem?_append_left (by rw [hf]; exact hj)]; rfl
    | succ i =>
      rw [List.getElem?_append_right (by rw [hf, Nat.succ_mul]; omega), hf, show (i + 1) * k + j - k = i * k + j by rw [Nat.succ_mul]; omega]
      exact ih i (by simpa using hi)
theorem Reads.addr {w : World} {B n : Nat} {A : Option Addr} {xs : List Value} (h : Reads w B k A n xs) (hk : 0 < k) (hn : 0 < n) : ∃ b off, A = some ⟨b, off, none⟩ ∧ b < B := by
  obtain ⟨ad, e, hb, hc⟩ := h.2 hn
  have hl := h.1
  have hp : 0 < n * k := Nat.mul_pos hn hk
  obtain ⟨b, off, spot⟩ := ad
  have h0 := hc 0 (xs[0]'(by omega)) (List.getElem?_eq_getElem (by omega))
  have hs : spot = none := by simpa [Addr.add] using World.cell?_spot h0
  subst hs
  exact ⟨b, off, e, hb⟩
theorem Reads.elem (hf : ∀ x, (f x).length = k) {w : World} {B n b off : Nat} {l : List α} (h : Reads w B k (some ⟨b, off, none⟩) n (l.flatMap f)) (i : Nat) (hi : i < l.length) (hn : 0 < n) (j : Nat) (hj : j < k) {u : Value} (hu : (f l[i])[j]? = some u) :
    w.cell? ⟨b, off + i * k + j, none⟩ = some u := by
  obtain ⟨ad, he, _, hc⟩ := h.2 hn
  injection he with he
  subst he
  have := hc (i * k + j) u (by rw [flat_get hf l i j hi hj]; exact hu)
  rwa [add_lit, ← Nat.add_assoc] at this
theorem flat_len {w : World} {B n : Nat} {A : Option Addr} {l : List α} (hf : ∀ x, (f x).length = k) (hk : 0 < k) (h : Reads w B k A n (l.flatMap f)) : l.length = n := by
  have := h.1
  rw [flat_length hf] at this
  exact Nat.eq_of_mul_eq_mul_right hk this
end

/-- A cell of an owned row, written. -/
theorem own_set {w : World} {base size n c g : Nat} {e : TypeId} {xs : List Value} (h : w.ownsRow base e size (.slice (some ⟨g, 0, none⟩) n c) n xs) (i : Nat) (u : Value) :
    (w.setCell ⟨g, i, none⟩ u).ownsRow base e size (.slice (some ⟨g, 0, none⟩) n c) n (xs.set i u) := by
  obtain ⟨h1, h2⟩ := h
  refine ⟨by simp [h1], ?_⟩
  rcases h2 with ⟨h2, _⟩ | ⟨g', cap, cur, hv, hg, hh, hn, hm, hs, hx⟩
  · cases h2
  · injection hv with hA _ hc
    injection hA with hA
    injection hA with hA _ _
    subst hA
    refine .inr ⟨g, cap, cur.setIfInBounds i u, by rw [hc], hg, Blk.set_ hh i u, hn, hm, by simpa using hs, ?_⟩
    rw [← hx]
    simp [List.take_set]
theorem own_cell {w : World} {base size n c g : Nat} {e : TypeId} {xs : List Value} (h : w.ownsRow base e size (.slice (some ⟨g, 0, none⟩) n c) n xs) (i : Nat) {u : Value} (hu : xs[i]? = some u) :
    w.cell? ⟨g, i, none⟩ = some u ∧ w.frozen? ⟨g, i, none⟩ = false := by
  obtain ⟨h1, h2⟩ := h
  rcases h2 with ⟨h2, _⟩ | ⟨g', cap, cur, hv, hg, hh, hn, hm, hs, hx⟩
  · cases h2
  · injection hv with hA _ hc
    injection hA with hA
    injection hA with hA _ _
    subst hA
    refine ⟨?_, Blk.frozen hh i⟩
    rw [Blk.cell hh i]
    rw [← hx, List.getElem?_take] at hu
    split at hu
    · simpa using hu
    · cases hu
end Go.Proofs.YthmojneobkaolaaGreatDoor
