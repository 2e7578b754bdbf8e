/- The contracts of cmp.Compare and cmp.Or at int, and of the closure in Order. -/
import Derived.Test.YtngdhpjbfcgloaaNext
import Derived.Sort.Grow
import Derived.Deep.RegionHeld3
import Derived.Deep.DeepCutAuto
namespace Go.Proofs.Ytngdhpjbfcgloaa
open Go.RowKit
set_option linter.unusedVariables false

def cmpZ (a b : Int) : Int := if a < b then -1 else if b < a then 1 else 0
theorem isnan_any (a : Int) (w : World) : Calls Try.prog 29 #[.int .i64 a] w fun e w' => e = .returned (.bool false) ∧ w = w' := by
  go_enter Try.func29, Try.ntmps29
  go_wp2
  go_ret
  exact ⟨by simp, rfl⟩
theorem compare_any (a b : Int) (w : World) : Calls Try.prog 21 #[.int .i64 a, .int .i64 b] w fun e w' => e = .returned (.int .i64 (cmpZ a b)) ∧ w = w' := by
  have HA := hide (fun W => isnan_any a W)
  have HB := hide (fun W => isnan_any b W)
  have key : (a < b ∧ cmpZ a b = -1) ∨ (¬ a < b ∧ b < a ∧ cmpZ a b = 1) ∨ (¬ a < b ∧ ¬ b < a ∧ cmpZ a b = 0) := by
    unfold cmpZ
    by_cases h1 : a < b
    · exact .inl ⟨h1, by rw [if_pos h1]⟩
    · by_cases h2 : b < a
      · exact .inr (.inl ⟨h1, h2, by rw [if_neg h1, if_pos h2]⟩)
      · exact .inr (.inr ⟨h1, h2, by rw [if_neg h1, if_neg h2]⟩)
  rcases key with ⟨h1, hc⟩ | ⟨h1, h2, hc⟩ | ⟨h1, h2, hc⟩ <;> rw [hc]
  all_goals
    clear hc
    go_enter Try.func21, Try.ntmps21
    go_wp2_with fail
    refine (HA.out _).mono ?_
    rintro e w1 ⟨rfl, hw⟩
    subst hw
    go_wp2_with fail
    refine (HB.out _).mono ?_
    rintro e w1 ⟨rfl, hw⟩
    subst hw
    go_wp2_with fail
    go_ret
    exact ⟨by simp, rfl⟩
def orZ (x y : Int) : Int := if x = 0 then y else x
def OrRel (w : World) (x y : Int) (v : Value) (wr : World) : Prop := ∃ k : Nat, k ≤ 2 ∧ v = .int .i64 (k : Int) ∧ (1 ≤ k → x = 0) ∧ (k = 2 → y = 0) ∧ wr = w
theorem or_two (x y : Int) (g : Nat) (w : World) (h0 : w.cell? ⟨g, 0, none⟩ = some (.int .i64 x)) (h1 : w.cell? ⟨g, 1, none⟩ = some (.int .i64 y)) :
    Calls Try.prog 20 #[.slice (some ⟨g, 0, none⟩) 2 2] w fun e w' => e = .returned (.int .i64 (orZ x y)) ∧ w = w' := by
  have HO := hide (show orZ x y = if x = 0 then y else x from rfl)
  go_enter Try.func20, Try.ntmps20
  go_wp2_with fail
  go_loopw [8] (OrRel w x y) (fun v _ => 2 - (intOf v).toNat)
  case atStart => exact ⟨0, by omega, rfl, fun h => by omega, fun h => by omega, rfl⟩
  case round =>
    obtain ⟨k, hk, rfl, hx, hy, rfl⟩ := hrel
    rcases (by omega : k = 0 ∨ k = 1 ∨ k = 2) with rfl | rfl | rfl
    · by_cases e0 : x = 0
      · have t0 : (x != 0) = false := by simp [e0]
        go_wp2_with fail
        go_roundw
        case rel => exact ⟨1, by omega, rfl, fun _ => e0, fun h => by omega, rfl⟩
        case measure => simp [intOf]
      · have t0 : (x != 0) = true := by simp [e0]
        go_wp2_with fail
        go_ret
        exact ⟨by rw [HO.out, if_neg e0]; rfl, rfl⟩
    · have e0 := hx (by omega)
      by_cases e1 : y = 0
      · have t0 : (y != 0) = false := by simp [e1]
        go_wp2_with fail
        go_roundw
        case rel => exact ⟨2, by omega, rfl, fun _ => e0, fun _ => e1, rfl⟩
        case measure => simp [intOf]
      · have t0 : (y != 0) = true := by simp [e1]
        go_wp2_with fail
        go_ret
        exact ⟨by rw [HO.out, if_pos e0]; rfl, rfl⟩
    · have e0 := hx (by omega)
      have e1 := hy rfl
      go_wp2_with fail
      go_ret
      exact ⟨by first | rfl | (rw [HO.out, if_pos e0, e1]; rfl), rfl⟩
def Grown (W w : World) : Prop := ∃ q os, w = Sort.grow (W.drewN q) os
theorem Grown.refl (W : World) : Grown W W := ⟨0, #[], by rw [Sort.grow_empty]; rfl⟩
theorem Grown.alloc {W w : World} (h : Grown W w) (o : Obj) : Grown W (w.alloc o) := by
  obtain ⟨q, os, rfl⟩ := h
  exact ⟨q, os ++ #[o], by rw [Sort.alloc_eq_grow, Sort.grow_grow]⟩
theorem Grown.drew {W w : World} (h : Grown W w) : Grown W w.drew := by
  obtain ⟨q, os, rfl⟩ := h
  exact ⟨q + 1, os, rfl⟩
set_option maxHeartbeats 8000000 in
set_option maxRecDepth 100000 in
theorem closure_any (x1 x2 y1 y2 : Int) (W : World) : Calls Try.prog 19 #[.agg #[.int .i64 x1, .int .i64 x2], .agg #[.int .i64 y1, .int .i64 y2]] W fun e w' => e = .returned (.int .i64 (orZ (cmpZ x1 y1) (cmpZ x2 y2))) ∧ Grown W w' := by
  have HCA := hide (fun w => compare_any x1 y1 w)
  have HCB := hide (fun w => compare_any x2 y2 w)
  obtain ⟨p, hp⟩ : ∃ p, cmpZ x1 y1 = p := ⟨_, rfl⟩
  obtain ⟨q, hq⟩ : ∃ q, cmpZ x2 y2 = q := ⟨_, rfl⟩
  rw [hp] at HCA ⊢
  rw [hq] at HCB ⊢
  clear hp hq
  have HB1 := hide ((Blk.new W 24 #[.int .i64 x1, .int .i64 x2]).alloc (.cells #[.int .i64 y1, .int .i64 y2] 24))
  have HB2 := hide (Blk.new (W.alloc (.cells #[.int .i64 x1, .int .i64 x2] 24)) 24 #[.int .i64 y1, .int .i64 y2])
  have HG := hide (((Grown.refl W).alloc (.cells #[.int .i64 x1, .int .i64 x2] 24)).alloc (.cells #[.int .i64 y1, .int .i64 y2] 24))
  go_enter Try.func19, Try.ntmps19
  go_upto_region 1 with fail
  have hsz : (W.alloc (.cells #[.int .i64 x1, .int .i64 x2] 24)).heap.size = W.heap.size + 1 := by simp
  rw [hsz] at HB2
  clear hsz
  obtain ⟨W2, hW2⟩ : ∃ W2, (W.alloc (.cells #[.int .i64 x1, .int .i64 x2] 24)).alloc (.cells #[.int .i64 y1, .int .i64 y2] 24) = W2 := ⟨_, rfl⟩
  rw [hW2] at HB1 HB2 HG ⊢
  clear hW2
  obtain ⟨g1, hg1⟩ : ∃ x, W.heap.size = x := ⟨_, rfl⟩
  obtain ⟨g2, hg2⟩ : ∃ x, W.heap.size + 1 = x := ⟨_, rfl⟩
  rw [hg1] at HB1
  rw [hg2] at HB2
  rw [hg2, hg1]
  clear hg1 hg2
  have c10 := HB1.out.cell 0
  have c11 := HB1.out.cell 1
  have c20 := HB2.out.cell 0
  have c21 := HB2.out.cell 1
  have HN := hide (Blk.new W2.drew 3 #[.int .i64 p, .int .i64 q])
  have HGF := hide (HG.out.drew.alloc (.cells #[.int .i64 p, .int .i64 q] 3))
  have hbN := (Blk.new W2 3 #[.int .i64 p, .int .i64 q]).drew
  have n0 := hbN.cell 0
  have n1 := hbN.cell 1
  go_region_held3 (fun w' => w'.cell? ⟨g1, 0, none⟩ = some (.int .i64 x1) ∧ w'.cell? ⟨g1, 1, none⟩ = some (.int .i64 x2) ∧ w'.cell? ⟨g2, 0, none⟩ = some (.int .i64 y1) ∧ w'.cell? ⟨g2, 1, none⟩ = some (.int .i64 y2))
    (first | (refine ⟨?_, ?_, ?_, ?_⟩ <;> (refine Ext.cell (w := W2) ?_ (by assumption); ((repeat (first | with_reducible exact Ext.refl _ | with_reducible assumption | with_reducible refine Ext.alloc ?_ _ | with_reducible refine Ext.drew ?_ | with_reducible refine Ext.drewN ?_ _ | with_reducible refine Ext.setCell ?_ (by first | exact Nat.le_refl _ | assumption | (simp; done) | omega) _ | with_reducible refine Ext.trans ?_ (by with_reducible assumption))); done))) | fail)
    (first
      | (go_at_call_of 21 (Value.int .i64 x1); refine (HCA.out _).mono ?_; rintro e w' ⟨rfl, rfl⟩)
      | (go_at_call_of 21 (Value.int .i64 x2); refine (HCB.out _).mono ?_; rintro e w' ⟨rfl, rfl⟩)
      | (go_at_call 20; refine (or_two p q _ _ (by exact n0) (by exact n1)).mono ?_; rintro e w' ⟨rfl, rfl⟩)
      | fail)
  all_goals
    go_wp2_with fail
    go_ret
    exact ⟨by simp, HGF.out⟩
end Go.Proofs.Ytngdhpjbfcgloaa
