/- The run of processors, weakly: who is on, what waits, which is better. -/
import Derived.Test.YthmojneobkaolaaGreatDoorTpRun
namespace Go.Proofs.YthmojneobkaolaaGreatDoor
open Go.RowKit
set_option linter.unusedVariables false

set_option maxHeartbeats 8000000 in
set_option maxRecDepth 100000 in
theorem on_any {b : Nat} {w : World} {hr g n cp : Nat} {tick stamp : Int} {xs : List Value} (h : RunM b w hr g n cp tick stamp xs) (hn : n ≤ 100) (t : Int) :
    Calls Tryz.prog 47 #[.pointer (some ⟨hr, 0, none⟩), .int .i64 t] w fun e w' => (∃ v, e = .returned v ∧ PtrT g n v) ∧ w = w' := by
  have H := hide h
  have c3 : w.cell? ⟨hr, 3, none⟩ = some (.slice (some ⟨g, 0, none⟩) n cp) := h.box.cell 3
  clear h
  go_enter Tryz.func47, Tryz.ntmps47
  go_upto_region 2 with fail
  go_loopw [11] (FindRel n · w) (fun v _ => n - (intOf v).toNat)
  case atStart => exact ⟨0, rfl, Nat.zero_le _, rfl⟩
  case round =>
    obtain ⟨i, rfl, hi, rfl⟩ := hrel
    by_cases hlt : i < n
    · have hlt' : (i : Int) < (n : Int) := by omega
      obtain ⟨z, k0, -, -⟩ := (H.out.task i hlt).int 14 (by omega)
      by_cases hz : z = t
      · subst hz
        go_wp2_with fail
        go_ret
        exact ⟨⟨_, rfl, .inr ⟨i, hlt, rfl⟩⟩, rfl⟩
      · have t1 : (z == t) = false := beq_eq_false_iff_ne.2 hz
        go_wp2_with fail
        go_roundw
        case rel => exact ⟨i + 1, by first | rfl | go_num, by omega, rfl⟩
        case measure => simp [intOf]; omega
    · obtain rfl : i = n := by omega
      go_wp2_with fail
      go_ret
      exact ⟨⟨_, rfl, .inl rfl⟩, rfl⟩
def RetB (e : Ending) : Prop := ∃ b : Bool, e = .returned (.bool b)
theorem time_any {b : Nat} {w : World} {hr g n cp : Nat} {tick stamp : Int} {xs : List Value} (h : RunM b w hr g n cp tick stamp xs) :
    Calls Tryz.prog 49 #[.pointer (some ⟨hr, 0, none⟩)] w fun e w' => (∃ z : Int, e = .returned (.int .i64 z)) ∧ Ext w w' := by
  have c0 : w.cell? ⟨hr, 0, none⟩ = some (.int .i64 1) := h.box.cell 0
  have c1 : w.cell? ⟨hr, 1, none⟩ = some (.int .i64 tick) := h.box.cell 1
  clear h
  go_enter Tryz.func49, Tryz.ntmps49
  go_upto_region 1 with fail
  go_quiet (fail)
  go_wp2_with fail
  go_ret
  exact ⟨⟨_, rfl⟩, (Ext.refl w).drewN nq⟩
theorem value_ok (w : World) : Calls Tryz.prog 76 #[.int .i64 1, .int .i64 10] w fun e w' => e = .returned (.bool true) ∧ w = w' := by
  go_enter Tryz.func76, Tryz.ntmps76
  go_wp2_with fail
  go_ret
  exact ⟨rfl, rfl⟩
theorem cost_any (z : Int) (w : World) : Calls Tryz.prog 48 #[.int .i64 z] w fun e w' => (∃ x y : Int, e = .returned (.tuple #[.int .i64 x, .int .i64 y])) ∧ w = w' := by
  by_cases h1 : z < 1
  · go_enter Tryz.func48, Tryz.ntmps48
    go_wp2_with fail
    go_ret2
    exact ⟨⟨_, _, rfl⟩, rfl⟩
  · by_cases h2 : 100 < z
    · have t1 : decide (z < 1) = false := decide_eq_false h1
      go_enter Tryz.func48, Tryz.ntmps48
      go_wp2_with fail
      go_ret2
      exact ⟨⟨_, _, rfl⟩, rfl⟩
    · have t1 : decide (z < 1) = false := decide_eq_false h1
      have t2 : decide (100 < z) = false := decide_eq_false h2
      have h0 : ¬ z = 0 := by omega
      go_enter Tryz.func48, Tryz.ntmps48
      go_wp2_with fail
      go_ret2
      exact ⟨⟨_, _, rfl⟩, rfl⟩
set_option maxHeartbeats 8000000 in
set_option maxRecDepth 100000 in
theorem as_any {w : World} {g o : Nat} (h : TaskK w g o) :
    Calls Tryz.prog 263 #[.pointer (some ⟨g, o, none⟩)] w fun e w' => (∃ y : Int, e = .returned (.tuple #[.int .i64 1, .int .i64 y])) ∧ Ext w w' := by
  obtain ⟨z3, k3, -, h3⟩ := h.int 3 (by omega)
  obtain rfl := h3 rfl
  obtain ⟨z1, k1, h1, -⟩ := h.int 1 (by omega)
  obtain rfl := h1 rfl
  obtain ⟨z2, k2, -, -⟩ := h.int 2 (by omega)
  clear h h3 h1
  go_enter Tryz.func263, Tryz.ntmps263
  go_upto_region 3 with fail
  go_quiet (fail)
  go_wp2_with fail
  go_ret2
  exact ⟨⟨_, rfl⟩, (Ext.refl w).drewN nq⟩
set_option maxHeartbeats 8000000 in
set_option maxRecDepth 100000 in
theorem waits_any {w : World} {g o : Nat} (h : TaskK w g o) :
    Calls Tryz.prog 198 #[.pointer (some ⟨g, o, none⟩)] w fun e w' => RetB e ∧ w = w' := by
  obtain ⟨z3, k3, -, h3⟩ := h.int 3 (by omega)
  obtain rfl := h3 rfl
  obtain ⟨z14, k14, -, -⟩ := h.int 14 (by omega)
  have k13 := h.out
  obtain ⟨r, k12⟩ := h.ready
  clear h h3
  cases r with
  | false =>
    go_enter Tryz.func198, Tryz.ntmps198
    go_wp2_with fail
    go_ret
    exact ⟨⟨_, rfl⟩, rfl⟩
  | true =>
    by_cases hz : z14 < 0
    · go_enter Tryz.func198, Tryz.ntmps198
      go_wp2_with fail
      go_ret
      exact ⟨⟨_, rfl⟩, rfl⟩
    · have t1 : decide (z14 < 0) = false := decide_eq_false hz
      go_enter Tryz.func198, Tryz.ntmps198
      go_wp2_with fail
      go_ret
      exact ⟨⟨_, rfl⟩, rfl⟩
set_option maxHeartbeats 8000000 in
set_option maxRecDepth 100000 in
theorem better_any {w : World} {g o g' o' : Nat} (h : TaskK w g o) (h' : TaskK w g' o') :
    Calls Tryz.prog 199 #[.pointer (some ⟨g, o, none⟩), .pointer (some ⟨g', o', none⟩)] w fun e w' => RetB e ∧ Ext w w' := by
  have HA := hide (as_any h)
  have HB := hide (fun W (hx : Ext w W) => as_any (h'.ext hx))
  have H := hide h
  have H' := hide h'
  clear h h'
  go_enter Tryz.func199, Tryz.ntmps199
  go_wp2_with fail
  refine HA.out.mono ?_
  rintro e w1 ⟨⟨y1, rfl⟩, hx1⟩
  have HX1 := hide hx1
  clear hx1
  go_wp2_with fail
  refine (HB.out w1 HX1.out).mono ?_
  rintro e w2 ⟨⟨y2, rfl⟩, hx2⟩
  have HX2 := hide (HX1.out.trans hx2)
  clear hx2 HX1
  obtain ⟨v, k9, -, -⟩ := (H.out.ext HX2.out).int 9 (by omega)
  obtain ⟨v', q9, -, -⟩ := (H'.out.ext HX2.out).int 9 (by omega)
  obtain ⟨i, k0, -, -⟩ := (H.out.ext HX2.out).int 0 (by omega)
  obtain ⟨i', q0, -, -⟩ := (H'.out.ext HX2.out).int 0 (by omega)
  have e0 : o + 0 = o := rfl
  have e0' : o' + 0 = o' := rfl
  rw [e0] at k0
  rw [e0'] at q0
  clear HA HB H H' e0 e0'
  go_upto_region 6 with fail
  go_quiet (fail)
  by_cases hv : v = v'
  · subst hv
    go_upto_region 15 with fail
    go_quiet (fail)
    go_wp2_with fail
    go_ret
    exact ⟨⟨_, rfl⟩, by first | exact HX2.out.trans (((Ext.refl w2).drewN _).drewN _) | exact HX2.out.trans ((Ext.refl w2).drewN _)⟩
  · have t1 : (v == v') = false := beq_eq_false_iff_ne.2 hv
    go_upto_region 7 with fail
    go_quiet (fail)
    go_wp2_with fail
    go_ret
    exact ⟨⟨_, rfl⟩, by first | exact HX2.out.trans (((Ext.refl w2).drewN _).drewN _) | exact HX2.out.trans ((Ext.refl w2).drewN _)⟩
end Go.Proofs.YthmojneobkaolaaGreatDoor
