/- The contracts of slices.Sort, Compact, Reverse on numbers of one's own, and of trace.next. -/
import Derived.Test.YtngdhpjbfcgloaaRows
import Derived.Test.YtngdhpjbfcgloaaRingP
import Derived.Test.YtngdhpjbfcgloaaIntsK
import Derived.Test.YtngdhpjbfcgloaaIntsV
import Derived.Test.YtngdhpjbfcgloaaShelf
import Derived.Lib.OwnBridge
import Derived.WalkKit
import Derived.WalkSpells
import Derived.Deep.LoopGhost
namespace Go.Proofs.Ytngdhpjbfcgloaa
open Go.RowKit
set_option linter.unusedVariables false

def castN (l : List Nat) : List Int := l.map fun (x : Nat) => (x : Int)
theorem natsV_cast (l : List Nat) : natsV l = intsV (castN l) := by simp [natsV, intsV, castN]
theorem castN_len (l : List Nat) : (castN l).length = l.length := by simp [castN]
theorem sort_own (A : Option Addr) (n c base : Nat) (zs : List Int) (w0 w : World) (h : w.ownsRow base 3 1 (.slice A n c) n (intsV zs)) (hx : Ext w0 w) (hb : w0.heap.size ≤ base) (hn : n ≤ 1000000) :
    Calls Try.prog 24 #[.slice A n c] w fun e w' => e = .returned (.tuple #[]) ∧ w'.ownsRow base 3 1 (.slice A n c) n (intsV (zs.mergeSort fun a b => decide (a ≤ b))) ∧ Ext w0 w' := by
  have hl : zs.length = n := by have := h.1; rw [intsV_length] at this; omega
  rcases Nat.eq_zero_or_pos n with rfl | hp
  · have e : zs = [] := List.length_eq_zero_iff.1 hl
    subst e
    exact (Try.slices_Sort_int_none A c w).mono fun e w' ⟨h1, h2⟩ => by
      subst h2
      exact ⟨h1, by simpa using h, hx⟩
  · obtain ⟨g, rfl, hg, hg2, -, -⟩ := own_addr h hp
    obtain ⟨g', cap, e0, -, -, -, -, -, hH⟩ := Lib.holds_of_ownsRow (enc := Value.int .i64) (zs := zs) h (by simp)
    injection e0 with e1 _ _
    injection e1 with e1
    injection e1 with e1
    subst e1
    subst hl
    refine (Try.slices_Sort_int g 0 c zs w hH hg2 (by omega)).mono ?_
    rintro e w' ⟨h1, q, os, rfl⟩
    have hs : (zs.mergeSort fun a b => decide (a ≤ b)).length = zs.length := List.length_mergeSort _
    have ho := Lib.ownsRow_putRow (q := q) (ys := zs.mergeSort fun a b => decide (a ≤ b)) h hs (Nat.le_refl _)
    rw [← hs, List.take_length, hs] at ho
    have hb2 := Lib.below_putRow (enc := Value.int .i64) (q := q) (d := (zs.mergeSort fun a b => decide (a ≤ b)).toArray) (Ext.below hx) (Nat.le_trans hb hg)
    have hgr : Ext (Go.Sort.putRow (Value.int .i64) (Go.Sort.ahead w q) g 0 (zs.mergeSort fun a b => decide (a ≤ b)).toArray) (Go.Sort.grow (Go.Sort.putRow (Value.int .i64) (Go.Sort.ahead w q) g 0 (zs.mergeSort fun a b => decide (a ≤ b)).toArray) os) :=
      Ext.of ⟨rfl, rfl, rfl, by simp [Go.Sort.grow], fun j hj => by simp only [Go.Sort.grow]; exact Array.getElem?_append_left hj⟩
    exact ⟨h1, hgr.own ho, (Ext.of hb2).trans hgr⟩
theorem compact_own (A : Option Addr) (n c base : Nat) (zs : List Int) (w0 w : World) (h : w.ownsRow base 3 1 (.slice A n c) n (intsV zs)) (hx : Ext w0 w) (hb : w0.heap.size ≤ base) (hn : n ≤ 1000000) :
    Calls Try.prog 25 #[.slice A n c] w fun e w' => e = .returned (.slice A (Lib.compact zs).length c) ∧ w'.ownsRow base 3 1 (.slice A (Lib.compact zs).length c) (Lib.compact zs).length (intsV (Lib.compact zs)) ∧ Ext w0 w' := by
  have hl : zs.length = n := by have := h.1; rw [intsV_length] at this; omega
  rcases Nat.eq_zero_or_pos n with rfl | hp
  · have e : zs = [] := List.length_eq_zero_iff.1 hl
    subst e
    exact (Try.slices_Compact_int_empty A c w).mono fun e w' ⟨h1, h2⟩ => by
      subst h2
      exact ⟨h1, h, hx⟩
  · obtain ⟨g, rfl, hg, hg2, hc, -⟩ := own_addr h hp
    obtain ⟨g', cap, e0, -, -, -, -, -, hH⟩ := Lib.holds_of_ownsRow (enc := Value.int .i64) (zs := zs) h (by simp)
    injection e0 with e1 _ _
    injection e1 with e1
    injection e1 with e1
    subst e1
    subst hl
    refine (Try.slices_Compact_int g 0 c zs w hH (by omega) hc).mono ?_
    rintro e w' ⟨h1, q, rfl⟩
    have hle := Lib.compact_length_le zs
    have ho := Lib.ownsRow_putRow (q := q) (ys := Lib.compact zs ++ List.replicate (zs.length - (Lib.compact zs).length) 0) h (by simp; omega) hle
    rw [List.take_left] at ho
    exact ⟨h1, ho, Ext.of (Lib.below_putRow (Ext.below hx) (Nat.le_trans hb hg))⟩
theorem reverse_own (A : Option Addr) (n c base : Nat) (zs : List Int) (w0 w : World) (h : w.ownsRow base 3 1 (.slice A n c) n (intsV zs)) (hx : Ext w0 w) (hb : w0.heap.size ≤ base) (hn : n ≤ 1000000) :
    Calls Try.prog 12 #[.slice A n c] w fun e w' => e = .returned (.tuple #[]) ∧ w'.ownsRow base 3 1 (.slice A n c) n (intsV zs.reverse) ∧ Ext w0 w' := by
  have hl : zs.length = n := by have := h.1; rw [intsV_length] at this; omega
  rcases Nat.eq_zero_or_pos n with rfl | hp
  · have e : zs = [] := List.length_eq_zero_iff.1 hl
    subst e
    exact (Try.slices_Reverse_int_empty A c w).mono fun e w' ⟨h1, h2⟩ => by
      subst h2
      exact ⟨h1, h, hx⟩
  · obtain ⟨g, rfl, hg, hg2, hc, -⟩ := own_addr h hp
    obtain ⟨g', cap, e0, -, -, -, -, -, hH⟩ := Lib.holds_of_ownsRow (enc := Value.int .i64) (zs := zs) h (by simp)
    injection e0 with e1 _ _
    injection e1 with e1
    injection e1 with e1
    subst e1
    subst hl
    refine (Try.slices_Reverse_int g 0 c zs w hH (by omega)).mono ?_
    rintro e w' ⟨h1, q, rfl⟩
    have hs : zs.reverse.length = zs.length := List.length_reverse
    have ho := Lib.ownsRow_putRow (q := q) (ys := zs.reverse) h hs (Nat.le_refl _)
    rw [← hs, List.take_length, hs] at ho
    exact ⟨h1, ho, Ext.of (Lib.below_putRow (Ext.below hx) (Nat.le_trans hb hg))⟩
def NextRel (w : World) (es : List EdgeD) (x n : Nat) (out i : Value) (wr : World) : Prop :=
  ∃ (k : Nat) (A : Option Addr) (m c : Nat), k ≤ n ∧ i = .int .i64 k ∧ out = .slice A m c ∧ (outs (es.take k) x).length = m ∧ wr.ownsRow w.heap.size 3 1 (.slice A m c) m (natsV (outs (es.take k) x)) ∧ Ext w wr
set_option maxHeartbeats 4000000 in
set_option maxRecDepth 100000 in
theorem next_any (es : List EdgeD) (hes : ∀ e ∈ es, e.1 < 64 ∧ e.2 < 64) (A : Option Addr) (n c B x : Nat) (hx64 : x < 64) (w : World) (hr : Reads w B 2 A n (edgesV es)) (hB : B ≤ w.heap.size) (hn : n ≤ 4000) :
    Calls Try.prog 11 #[.slice A n c, .int .i64 (x : Int)] w fun e w' => ∃ A' c', e = .returned (.slice A' (nextL es x).length c') ∧ w'.ownsRow w.heap.size 3 1 (.slice A' (nextL es x).length c') (nextL es x).length (natsV (nextL es x)) ∧ Ext w w' := by
  obtain ⟨i0, hi0, hz0, hz1, hz2⟩ := info_parts int_info
  have HLE := hide (show es.length = n from flat_len edgeC_len (by omega) hr)
  have HR := hide hr
  have HES := hide hes
  clear hr hes
  go_enter Try.func11, Try.ntmps11
  go_wp2_with fail
  go_loopw [5, 10] (NextRel w es x n) (fun _ i _ => n - (intOf i).toNat)
  case atStart => exact ⟨0, none, 0, 0, Nat.zero_le _, rfl, rfl, by simp [outs], by simpa [outs, natsV] using World.ownsRow_nil w w.heap.size 3 1, Ext.refl _⟩
  case round =>
    obtain ⟨k, A5, m5, c5, hk, rfl, rfl, hl5, ho5, hx5⟩ := hrel
    have HL5 := hide hl5
    have HO5 := hide ho5
    have HX5 := hide hx5
    have hm5 : m5 ≤ 4000 := by
      have h1 := outs_le (es.take k) x
      have h2 := HL5.out
      rw [List.length_take] at h1
      omega
    clear hl5 ho5 hx5
    by_cases hlt5 : k < n
    · obtain ⟨b, off, rfl, hb⟩ := HR.out.addr (by omega) (by omega)
      have hkl : k < es.length := by rw [HLE.out]; exact hlt5
      obtain ⟨q0, q1⟩ := edge_cells (HX5.out.reads HR.out hB) k hlt5 hkl
      obtain ⟨o1, o2⟩ := HES.out es[k] (List.getElem_mem hkl)
      have HT := hide (show outs (es.take (k + 1)) x = outs (es.take k) x ++ if es[k].1 = x then [es[k].2] else [] by rw [List.take_succ_eq_append_getElem hkl, outs_snoc])
      generalize es[k] = ed at *
      obtain ⟨e1, e2⟩ := ed
      dsimp only at q0 q1 o1 o2 HT
      have HO6 := hide (((Ext.refl wr).alloc (.cells #[.int .i64 (e1 : Int), .int .i64 (e2 : Int)] 24)).own HO5.out)
      have HX6 := hide (HX5.out.alloc (.cells #[.int .i64 (e1 : Int), .int .i64 (e2 : Int)] 24))
      by_cases he : e1 = x
      · subst he
        have HT' := hide (show outs (es.take (k + 1)) e1 = outs (es.take k) e1 ++ [e2] by rw [HT.out]; simp)
        have HB7 := hide (Blk.new' (wr.alloc (.cells #[.int .i64 (e1 : Int), .int .i64 (e2 : Int)] 24)) 3 #[.int .i64 (e2 : Int)] (g := wr.heap.size + 1) (by simp))
        go_wp2_with (at_builtin; refine wpList_append_any _ rfl (.tmp 18) (.tmp 21) _ rfl w.heap.size 3 i0 _ 1 8 Try.underlying26 hi0 hz0 hz1 hz2 rfl (by omega) _ m5 _ rfl (HO6.out.alloc _) _ _ 1 1 _ rfl HB7.out.reads (by simp [Value.oneCell']) (by simp only [maxLen]; omega) (by omega) (by have := HX5.out.size; simp; omega) ?_; intro A8 c8 w8 ho8 hg8 ha8)
        have HO8 := hide (show w8.ownsRow w.heap.size 3 1 (.slice A8 (m5 + 1) c8) (m5 + 1) (natsV (outs (es.take (k + 1)) e1)) by
          rw [HT'.out, natsV_append]; exact ho8)
        have HX8 := hide (show Ext w w8 from (HX6.out.alloc _).grown hg8 (fun j hj => (HO5.out.lt j hj).1))
        clear ho8 hg8 ha8 q0 q1
        go_roundw
        case measure => simp [intOf]; omega
        case rel => exact ⟨k + 1, A8, m5 + 1, c8, by omega, by go_num, rfl, by have := HL5.out; rw [HT'.out, List.length_append, this]; rfl, HO8.out, HX8.out⟩
      · have t1 : (e1 == x) = false := by simpa using he
        have t2 : ((e1 : Int) == (x : Int)) = false := by simp; omega
        have HN := hide he
        clear he
        go_wp2_with fail
        go_roundw
        case measure => simp [intOf]; omega
        case rel => exact ⟨k + 1, A5, m5, c5, by omega, by go_num, rfl, by have := HL5.out; rw [HT.out, if_neg HN.out, List.append_nil, this], by rw [HT.out, if_neg HN.out, List.append_nil]; exact HO6.out, HX6.out⟩
    · obtain rfl : n = k := by omega
      have HTK := hide (show es.take n = es from List.take_of_length_le (by rw [HLE.out]; exact Nat.le_refl _))
      have HO7 := hide (show wr.ownsRow w.heap.size 3 1 (.slice A5 m5 c5) m5 (intsV (castN (outs es x))) by rw [← natsV_cast, ← HTK.out]; exact HO5.out)
      have HNL := hide (nextL_ints es x)
      have HLN := hide (show (nextL es x).length = (Lib.compact ((castN (outs es x)).mergeSort fun a b => decide (a ≤ b))).length by rw [← castN_len (nextL es x)]; exact congrArg List.length (nextL_ints es x))
      go_wp2_with fail
      refine (sort_own A5 m5 c5 w.heap.size _ w wr HO7.out HX5.out (Nat.le_refl _) (by omega)).mono ?_
      rintro e w1 ⟨rfl, ho1, hx1⟩
      have HO1 := hide ho1
      have HX1 := hide hx1
      clear ho1 hx1
      go_wp2_with fail
      refine (compact_own A5 m5 c5 w.heap.size _ w w1 HO1.out HX1.out (Nat.le_refl _) (by omega)).mono ?_
      rintro e w2 ⟨rfl, ho2, hx2⟩
      have HO2 := hide ho2
      have HX2 := hide hx2
      clear ho2 hx2
      rw [← HLN.out]
      go_wp2_with fail
      go_ret
      refine ⟨A5, c5, rfl, ?_, HX2.out⟩
      have := HO2.out
      rw [← HLN.out] at this
      rw [natsV_cast]
      have e : castN (nextL es x) = Lib.compact ((castN (outs es x)).mergeSort fun a b => decide (a ≤ b)) := HNL.out
      rw [e]
      exact this
end Go.Proofs.Ytngdhpjbfcgloaa
