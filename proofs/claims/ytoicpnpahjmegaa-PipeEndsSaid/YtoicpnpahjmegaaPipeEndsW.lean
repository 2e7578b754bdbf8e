/- The walk of PipeEnds. -/
import Derived.Test.YtoicpnpahjmegaaPipeList
import Derived.Test.YtoicpnpahjmegaaInts
import Derived.Test.YtoicpnpahjmegaaRest
namespace Go.Proofs.Ytoicpnpahjmegaa
open Go.RowKit
set_option linter.unusedVariables false

/-- The first pipe of a table, its ends. -/
def EndsIs (w0 : World) (gp g : Nat) (all : Array Value) (r s : Nat) (w : World) : Prop := Blk w gp 51 all ∧ OneAt w g (r : Int) (s : Int) (.slice none 0 0) ∧ Ext w0 w
theorem EndsIs.ne {w0 : World} {gp g : Nat} {all : Array Value} {r s : Nat} {w : World} (h : EndsIs w0 gp g all r s w) : gp ≠ g := by
  intro e
  have h1 := h.1
  have h2 := h.2.1
  subst e
  simp only [Blk] at h1 h2
  rw [h1] at h2
  simp at h2
theorem EndsIs.next {w0 : World} {gp g : Nat} {all : Array Value} {r s r' s' : Nat} {w w' : World} (h : EndsIs w0 gp g all r s w) (hg : w0.heap.size ≤ g) {x y : Int} (ho : OneAt w' g x y (.slice none 0 0)) (hk : Kept g (.slice none 0 0) w w') (hx : x = r') (hy : y = s') : EndsIs w0 gp g all r' s' w' := by
  subst hx hy
  exact ⟨hk.blk h.1 h.ne (by simp [Value.ownBlock]), ho, hk.ext h.2.2 hg (fun k e => by simp [Value.ownBlock] at e)⟩
def MoreRel (w0 : World) (gp g : Nat) (all : Array Value) (n a b : Nat) (d e : Nat) (i : Value) (w : World) : Prop := ∃ k : Nat, k ≤ n ∧ i = .int .i64 k ∧ EndsIs w0 gp g all (a + d * k) (b + e * k) w
def LessRel (w0 : World) (gp g : Nat) (all : Array Value) (R S : Nat) (i : Value) (w : World) : Prop := ∃ k : Nat, k ≤ R + S + 2 ∧ i = .int .i64 k ∧ ((k < R + S + 2 ∧ EndsIs w0 gp g all (R + 1 - k) (S + 1 - (k - (R + 1))) w) ∨ (k = R + S + 2 ∧ Blk w gp 51 (all.setIfInBounds 0 (.pointer none)) ∧ Ext w0 w))

set_option maxHeartbeats 4000000 in
set_option maxRecDepth 100000 in
theorem ends_walk (z y : Int) (w : World) (z1 : -9223372036854775808 ≤ z) (z2 : z ≤ 9223372036854775807) (y1 : -9223372036854775808 ≤ y) (y2 : y ≤ 9223372036854775807) :
    Calls Try.prog 4 #[.int .i64 z, .int .i64 y] w fun e w' => e = .returned (.bool true) ∧ Ext w w' := by
  go_enter Try.func4, Try.ntmps4
  go_wp2_with fail
  refine (new_st w).mono ?_
  rintro e w1 ⟨rfl, hb1, hx1⟩
  have hlt := hb1.lt
  go_wp2_with fail
  refine (make_st (w0 := w) w.heap.size 0 nones w1 hb1 hx1 (Nat.le_refl _) (by omega) rfl rfl (fun j hj => by omega)).mono ?_
  rintro e w2 ⟨rfl, h2, _⟩
  go_wp2_with fail
  refine (make_st (w0 := w) w.heap.size 1 _ w2 h2.blk h2.ext (Nat.le_refl _) (by omega) rfl rfl (fun j hj => by obtain rfl : j = 0 := (by omega); exact ⟨_, rfl⟩)).mono ?_
  rintro e w3 ⟨rfl, h3, k3⟩
  have T3 := two_made (Nat.le_refl _) hlt h2 h3 k3
  have E3 : EndsIs w w.heap.size w1.heap.size (twoP ⟨w1.heap.size, 0, none⟩ ⟨w2.heap.size, 0, none⟩) 1 1 w3 := ⟨T3.a.blk, T3.a.one, T3.a.ext⟩
  have hgg := T3.a.gb
  clear T3 h2 h3 k3 hb1 hx1 hlt
  generalize w1.heap.size = g1 at *
  generalize w2.heap.size = g2 at *
  have H3 := hide E3
  clear E3
  go_wp2_with fail
  refine (rest_any z 10 w3 z1 z2 (by omega) (by omega)).mono ?_
  rintro e w3 ⟨rfl, rfl⟩
  obtain ⟨R, hR, hR2⟩ : ∃ k : Nat, restZ z 10 = (k : Int) ∧ k < 10 := rest_nat z 10 (by omega)
  rw [hR]
  clear hR z1 z2
  go_wp2_with fail
  refine (rest_any y 10 w3 y1 y2 (by omega) (by omega)).mono ?_
  rintro e w3 ⟨rfl, rfl⟩
  obtain ⟨S, hS, hS2⟩ : ∃ k : Nat, restZ y 10 = (k : Int) ∧ k < 10 := rest_nat y 10 (by omega)
  rw [hS]
  clear hS y1 y2
  go_wp2_with fail
  go_loopw [49] (MoreRel w w.heap.size g1 (twoP ⟨g1, 0, none⟩ ⟨g2, 0, none⟩) R 1 1 1 0) (fun i _ => R - (intOf i).toNat)
  case atStart => exact ⟨0, Nat.zero_le _, rfl, H3.out⟩
  case round =>
    obtain ⟨k, hk, rfl, he⟩ := hrel
    have HE := hide he
    clear he H3
    by_cases hlt : k < R
    · go_wp2_with fail
      refine (more_r _ 0 g1 _ _ _ _ _ HE.out.1 (by omega) rfl HE.out.2.1 (by omega) (by omega)).mono ?_
      rintro e w4 ⟨rfl, o4, k4⟩
      have H4 := hide (HE.out.next (r' := 1 + 1 * (k + 1)) (s' := 1 + 0 * (k + 1)) hgg o4 k4 (by omega) (by omega))
      clear o4 k4
      go_wp2_with fail
      go_roundw
      case rel => exact ⟨k + 1, by omega, by go_num, H4.out⟩
      case measure => simp [intOf]; omega
    · obtain rfl : k = R := by omega
      go_wp2_with fail
      go_loopw [57] (MoreRel w w.heap.size g1 (twoP ⟨g1, 0, none⟩ ⟨g2, 0, none⟩) S (1 + k) 1 0 1) (fun i _ => S - (intOf i).toNat)
      case atStart => exact ⟨0, Nat.zero_le _, rfl, by have := HE.out; simpa using this⟩
      case round =>
        obtain ⟨j, hj, rfl, he⟩ := hrel
        have HF := hide he
        clear he HE
        by_cases hlt2 : j < S
        · go_wp2_with fail
          refine (more_w _ 0 g1 _ _ _ _ _ HF.out.1 (by omega) rfl HF.out.2.1 (by omega) (by omega)).mono ?_
          rintro e w4 ⟨rfl, o4, k4⟩
          have H4 := hide (HF.out.next (r' := 1 + k + 0 * (j + 1)) (s' := 1 + 1 * (j + 1)) hgg o4 k4 (by omega) (by omega))
          clear o4 k4
          go_wp2_with fail
          go_roundw
          case rel => exact ⟨j + 1, by omega, by go_num, H4.out⟩
          case measure => simp [intOf]; omega
        · obtain rfl : j = S := by omega
          go_wp2_with fail
          go_loopw [68] (LessRel w w.heap.size g1 (twoP ⟨g1, 0, none⟩ ⟨g2, 0, none⟩) k j) (fun i _ => k + j + 2 - (intOf i).toNat)
          case atStart => exact ⟨0, Nat.zero_le _, rfl, .inl ⟨by omega, by have := HF.out; simpa [Nat.add_comm] using this⟩⟩
          case round =>
            obtain ⟨i, hi, rfl, he⟩ := hrel
            clear HF
            rcases he with ⟨hlt3, he⟩ | ⟨rfl, hb, hx⟩
            · obtain ⟨r, hr⟩ : ∃ r, r = k + 1 - i := ⟨_, rfl⟩
              obtain ⟨s, hs⟩ : ∃ s, s = j + 1 - (i - (k + 1)) := ⟨_, rfl⟩
              rw [← hr, ← hs] at he
              have HG := hide he
              have t : ((r : Int) + (s : Int) != (k : Int) + (j : Int) + 2 - (i : Int)) = false := by rw [bne_eq_false_iff_eq]; omega
              have hrb : r ≤ 64 := by omega
              have hsb : s ≤ 64 := by omega
              have HR := hide hr
              have HS := hide hs
              have tc : ¬ k < i ∨ (k < i ∧ i < k + j + 1) ∨ (k < i ∧ i = k + j + 1) := by omega
              clear he hr hs
              rcases tc with c1 | ⟨c1, c2⟩ | ⟨c1, c2⟩
              · have HN := hide (show r - 1 = k + 1 - (i + 1) ∧ s = j + 1 - (i + 1 - (k + 1)) by have := HR.out; have := HS.out; omega)
                have hr1 : 0 < r := by have := HR.out; omega
                have hr2 : r ≤ 64 := by have := HR.out; omega
                have hs1 : s ≠ 0 := by have := HS.out; omega
                go_wp2_with fail
                refine (tell_ok _ 0 g1 _ _ _ _ _ _ _ HG.out.1 (by omega) rfl HG.out.2.1).mono ?_
                rintro e w5 ⟨rfl, x5⟩
                have HG5 := hide (show EndsIs w w.heap.size g1 _ r s w5 from ⟨HG.out.1.ext x5, HG.out.2.1.ext x5, HG.out.2.2.trans x5⟩)
                go_wp2_with fail
                refine (less_r _ 0 g1 _ _ _ _ _ HG5.out.1 (by omega) rfl HG5.out.2.1 (by omega) (by omega) (by omega)).mono ?_
                rintro e w6 ⟨rfl, o6, k6⟩
                have H6 := hide (HG5.out.next (r' := r - 1) (s' := s) hgg o6 k6 (by omega) rfl)
                clear o6 k6 t
                go_wp2_with fail
                go_roundw
                case rel => exact ⟨i + 1, by omega, by go_num, .inl ⟨by omega, by rw [← HN.out.1, ← HN.out.2]; exact H6.out⟩⟩
                case measure => simp [intOf]; omega
              · have HN := hide (show r = k + 1 - (i + 1) ∧ s - 1 = j + 1 - (i + 1 - (k + 1)) by have := HR.out; have := HS.out; omega)
                have hr1 : 0 < s := by have := HS.out; omega
                have hr2 : s ≤ 64 := by have := HS.out; omega
                have hs1 : 1 < s := by have := HS.out; omega
                go_wp2_with fail
                refine (tell_ok _ 0 g1 _ _ _ _ _ _ _ HG.out.1 (by omega) rfl HG.out.2.1).mono ?_
                rintro e w5 ⟨rfl, x5⟩
                have HG5 := hide (show EndsIs w w.heap.size g1 _ r s w5 from ⟨HG.out.1.ext x5, HG.out.2.1.ext x5, HG.out.2.2.trans x5⟩)
                go_wp2_with fail
                refine (less_w _ 0 g1 _ _ _ _ _ HG5.out.1 (by omega) rfl HG5.out.2.1 (by omega) (by omega) (by omega)).mono ?_
                rintro e w6 ⟨rfl, o6, k6⟩
                have H6 := hide (HG5.out.next (r' := r) (s' := s - 1) hgg o6 k6 rfl (by omega))
                clear o6 k6 t
                go_wp2_with fail
                go_roundw
                case rel => exact ⟨i + 1, by omega, by go_num, .inl ⟨by omega, by rw [← HN.out.1, ← HN.out.2]; exact H6.out⟩⟩
                case measure => simp [intOf]; omega
              · have HN := hide (show (r : Int) = 0 ∧ (s : Int) = 1 by have := HR.out; have := HS.out; omega)
                have HC2 := hide c2
                clear c2
                go_wp2_with fail
                refine (tell_ok _ 0 g1 _ _ _ _ _ _ _ HG.out.1 (by omega) rfl HG.out.2.1).mono ?_
                rintro e w5 ⟨rfl, x5⟩
                have HG5 := hide (show EndsIs w w.heap.size g1 _ r s w5 from ⟨HG.out.1.ext x5, HG.out.2.1.ext x5, HG.out.2.2.trans x5⟩)
                go_wp2_with fail
                refine (less_w_last _ 0 g1 _ _ _ _ _ HG5.out.1 (by omega) rfl HG5.out.2.1 (by have := HN.out; omega) (by have := HN.out; omega) HN.out.2 HN.out.1).mono ?_
                rintro e w6 ⟨rfl, b6, k6, o6, t6, p6, s6⟩
                have hgp := HG5.out.ne
                have H6 := hide (show Ext w w6 from HG5.out.2.2.trans' ⟨o6, t6, p6, s6, fun q hq => k6 q (Nat.lt_of_lt_of_le hq HG5.out.2.2.size) (by omega) (by omega)⟩)
                have B6 := hide b6
                clear k6 o6 t6 p6 s6 b6 t
                go_wp2_with fail
                go_roundw
                case rel => exact ⟨i + 1, by have := HC2.out; omega, by go_num, .inr ⟨by have := HC2.out; omega, B6.out, H6.out⟩⟩
                case measure => simp [intOf]; omega
            · have HB := hide hb
              have HX := hide hx
              clear hb hx
              go_wp2_with fail
              refine (tell_none _ 0 _ _ HB.out (by omega) rfl).mono ?_
              rintro e w5 ⟨rfl, rfl⟩
              go_wp2_with fail
              refine (make_st (w0 := w) w.heap.size 0 _ _ HB.out HX.out (Nat.le_refl _) (by omega) rfl rfl (fun j hj => by omega)).mono ?_
              rintro e w6 ⟨rfl, h6, _⟩
              have H6 := hide h6
              clear h6
              go_wp2_with fail
              refine (list_two _ _ _ _ H6.out.blk).mono ?_
              rintro e w7 ⟨A7, c7, rfl, o7, x7⟩
              have O7 := hide o7
              have X7 := hide x7
              clear o7 x7
              go_wp2_with fail
              refine (equal_ints A7 2 c7 _ [1, 2] _ 2 2 _ [1, 2] _ ((Reads.of_own O7.out).alloc (Nat.le_refl _) _) (Blk.new _ _ _).reads (by simp [maxLen]) (by simp [maxLen])).mono ?_
              rintro e w8 ⟨rfl, d, rfl⟩
              go_wp2_with fail
              go_ret
              exact ⟨rfl, (((H6.out.ext).trans X7.out).alloc _).drewN _⟩
end Go.Proofs.Ytoicpnpahjmegaa
