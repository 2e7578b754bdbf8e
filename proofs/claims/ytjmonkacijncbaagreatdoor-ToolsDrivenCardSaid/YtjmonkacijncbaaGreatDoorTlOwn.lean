/- The contracts of slices.Reverse, Compact and Sort on strings of one's own. -/
import Derived.Test.YtjmonkacijncbaaGreatDoorTlLines
import Derived.Lib.OwnBridge
namespace Go.Proofs.YtjmonkacijncbaaGreatDoor
open Go.RowKit
set_option linter.unusedVariables false

abbrev encB (x : Bs) : Value := .string (str x)
theorem sreverse_own (A : Option Addr) (n c base : Nat) (zs : List Bs) (w0 w : World) (h : w.ownsRow base 9 1 (.slice A n c) n (strsV zs)) (hx : Ext w0 w) (hb : w0.heap.size ≤ base) (hn : n ≤ 1000000) :
    Calls Tryz.prog 76 #[.slice A n c] w fun e w' => e = .returned (.tuple #[]) ∧ w'.ownsRow base 9 1 (.slice A n c) n (strsV zs.reverse) ∧ Ext w0 w' := by
  have hl : zs.length = n := by have := h.1; rw [strsV_length] at this; omega
  rcases Nat.eq_zero_or_pos n with rfl | hp
  · have e : zs = [] := List.length_eq_zero_iff.1 hl
    subst e
    exact (Tryz.slices_Reverse_string_empty A c w).mono fun e w' ⟨h1, h2⟩ => by
      subst h2
      exact ⟨h1, h, hx⟩
  · obtain ⟨g, rfl, hg, hg2, hc, -⟩ := own_addr h hp
    obtain ⟨g', cap, e0, -, -, -, -, -, hH⟩ := Lib.holds_of_ownsRow (enc := encB) (zs := zs) h (by simp)
    injection e0 with e1 _ _
    injection e1 with e1
    injection e1 with e1
    subst e1
    subst hl
    refine (Tryz.slices_Reverse_string g 0 c zs w hH (by omega)).mono ?_
    rintro e w' ⟨h1, q, rfl⟩
    have hs : zs.reverse.length = zs.length := List.length_reverse
    have ho := Lib.ownsRow_putRow (enc := encB) (q := q) (ys := zs.reverse) h hs (Nat.le_refl _)
    rw [← hs, List.take_length, hs] at ho
    exact ⟨h1, ho, Ext.of (Lib.below_putRow (Ext.below hx) (Nat.le_trans hb hg))⟩
theorem scompact_own (A : Option Addr) (n c base : Nat) (zs : List Bs) (w0 w : World) (h : w.ownsRow base 9 1 (.slice A n c) n (strsV zs)) (hx : Ext w0 w) (hb : w0.heap.size ≤ base) (hn : n ≤ 1000000) :
    Calls Tryz.prog 79 #[.slice A n c] w fun e w' => e = .returned (.slice A (Lib.compact zs).length c) ∧ w'.ownsRow base 9 1 (.slice A (Lib.compact zs).length c) (Lib.compact zs).length (strsV (Lib.compact zs)) ∧ Ext w0 w' := by
  have hl : zs.length = n := by have := h.1; rw [strsV_length] at this; omega
  rcases Nat.eq_zero_or_pos n with rfl | hp
  · have e : zs = [] := List.length_eq_zero_iff.1 hl
    subst e
    exact (Tryz.slices_Compact_string_empty A c w).mono fun e w' ⟨h1, h2⟩ => by
      subst h2
      exact ⟨h1, h, hx⟩
  · obtain ⟨g, rfl, hg, hg2, hc, -⟩ := own_addr h hp
    obtain ⟨g', cap, e0, -, -, -, -, -, hH⟩ := Lib.holds_of_ownsRow (enc := encB) (zs := zs) h (by simp)
    injection e0 with e1 _ _
    injection e1 with e1
    injection e1 with e1
    subst e1
    subst hl
    refine (Tryz.slices_Compact_string g 0 c zs w hH (by omega) hc).mono ?_
    rintro e w' ⟨h1, q, rfl⟩
    have hle := Lib.compact_length_le zs
    have ho := Lib.ownsRow_putRow (enc := encB) (q := q) (ys := Lib.compact zs ++ List.replicate (zs.length - (Lib.compact zs).length) []) h (by simp; omega) hle
    rw [List.take_left] at ho
    exact ⟨h1, ho, Ext.of (Lib.below_putRow (Ext.below hx) (Nat.le_trans hb hg))⟩
def sortS (zs : List Bs) : List Bs := zs.mergeSort fun x y => decide (x ≤ y)
theorem ssort_own (A : Option Addr) (n c base : Nat) (zs : List Bs) (w0 w : World) (h : w.ownsRow base 9 1 (.slice A n c) n (strsV zs)) (hx : Ext w0 w) (hb : w0.heap.size ≤ base) (hn : n ≤ 1000000) :
    Calls Tryz.prog 16 #[.slice A n c] w fun e w' => e = .returned (.tuple #[]) ∧ w'.ownsRow base 9 1 (.slice A n c) n (strsV (sortS zs)) ∧ Ext w0 w' := by
  have hl : zs.length = n := by have := h.1; rw [strsV_length] at this; omega
  rcases Nat.eq_zero_or_pos n with rfl | hp
  · have e : zs = [] := List.length_eq_zero_iff.1 hl
    subst e
    exact (Tryz.slices_Sort_string_none A c w).mono fun e w' ⟨h1, h2⟩ => by
      subst h2
      exact ⟨h1, by simpa [sortS] using h, hx⟩
  · obtain ⟨g, rfl, hg, hg2, -, -⟩ := own_addr h hp
    obtain ⟨g', cap, e0, -, -, -, -, -, hH⟩ := Lib.holds_of_ownsRow (enc := encB) (zs := zs) h (by simp)
    injection e0 with e1 _ _
    injection e1 with e1
    injection e1 with e1
    subst e1
    subst hl
    refine (Tryz.slices_Sort_string g 0 c zs w hH hg2 (by omega)).mono ?_
    rintro e w' ⟨h1, q, os, rfl⟩
    have hs : (sortS zs).length = zs.length := List.length_mergeSort _
    have ho := Lib.ownsRow_putRow (enc := encB) (q := q) (ys := sortS zs) h hs (Nat.le_refl _)
    rw [← hs, List.take_length, hs] at ho
    have hb2 := Lib.below_putRow (enc := encB) (q := q) (d := (sortS zs).toArray) (Ext.below hx) (Nat.le_trans hb hg)
    have hgr : Ext (Go.Sort.putRow encB (Go.Sort.ahead w q) g 0 (sortS zs).toArray) (Go.Sort.grow (Go.Sort.putRow encB (Go.Sort.ahead w q) g 0 (sortS zs).toArray) os) :=
      Ext.of ⟨rfl, rfl, rfl, by simp [Go.Sort.grow], fun j hj => by simp only [Go.Sort.grow]; exact Array.getElem?_append_left hj⟩
    exact ⟨h1, hgr.own ho, (Ext.of hb2).trans hgr⟩
end Go.Proofs.YtjmonkacijncbaaGreatDoor
