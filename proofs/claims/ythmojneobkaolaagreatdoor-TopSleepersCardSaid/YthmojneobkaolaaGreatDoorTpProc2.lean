/- The table of processes: making it, forking. -/
import Derived.Test.YthmojneobkaolaaGreatDoorTpProc
import Derived.Test.YthmojneobkaolaaGreatDoorSetC
import Derived.Test.YthmojneobkaolaaGreatDoorDraw
import Derived.Deep.RegionLaw
namespace Go.Proofs.YthmojneobkaolaaGreatDoor
open Go.RowKit
set_option linter.unusedVariables false

theorem proc_zero : Tryz.zeroCells185 = (List.replicate 68 (.int .i64 0)).toArray := by kernel_rfl
theorem ones4 (a b c d : Int) : (#[.int .i64 a, .int .i64 b, .int .i64 c, .int .i64 d] : Array Value).all (·.oneCell') = true := by simp [Value.oneCell']
theorem entry_size : (Tryz.prog.info? 182).map (·.size) = some 4 := by kernel_rfl
set_option maxHeartbeats 4000000 in
set_option maxRecDepth 100000 in
theorem procnew_ok (w : World) : Calls Tryz.prog 31 #[] w fun e w' => ∃ g, e = .returned (.pointer (some ⟨g, 0, none⟩)) ∧ ProcAt w' g 1 ∧ w.heap.size ≤ g ∧ Ext w w' := by
  go_enter Tryz.func31, Tryz.ntmps31
  go_upto_region 2 with fail
  have HB := hide (Blk.new w 185 Tryz.zeroCells185)
  have HX := hide ((Ext.refl w).alloc (.cells Tryz.zeroCells185 185))
  obtain ⟨g, hg⟩ : ∃ g, w.heap.size = g := ⟨_, rfl⟩
  have hgw : w.heap.size ≤ g := by omega
  rw [hg] at HB ⊢
  clear hg
  generalize w.alloc _ = W at *
  have HTH := hide (HB.out.there_ 4 4 (by rw [proc_zero]; simp))
  go_wp2_with ((with_reducible refine wpList_store_mid rfl 182 (.tmp 8) (.tmp 5) rfl g 4 #[.int .i64 1, .int .i64 0, .int .i64 1, .int .i64 0] rfl ?_ ?_ ?_ ?_ ?_); (exact rfl); (exact HTH.out); (exact entry_size); (exact ones4 _ _ _ _))
  go_ret
  refine ⟨g, rfl, ⟨_, HB.out.setCells _ 4, by rw [arrSet_size, proc_zero]; simp, fun o ho => ?_⟩, hgw, HX.out.setCells hgw _ _⟩
  rw [arrSet_get _ _ _ (by rw [proc_zero]; simp) o, proc_zero]
  simp only [List.length_cons, List.length_nil]
  by_cases h : 4 ≤ o ∧ o < 8
  · rw [if_pos (show 4 ≤ o ∧ o < 4 + (0 + 1 + 1 + 1 + 1) from h)]
    rcases (show o = 4 ∨ o = 5 ∨ o = 6 ∨ o = 7 by omega) with rfl | rfl | rfl | rfl <;> rfl
  · rw [if_neg (show ¬ (4 ≤ o ∧ o < 4 + (0 + 1 + 1 + 1 + 1)) from h), List.getElem?_toArray, List.getElem?_replicate, if_pos ho]
    unfold procF
    rw [if_neg (by omega)]
set_option maxHeartbeats 4000000 in
theorem procliving_ok {w : World} {g n : Nat} (h : ProcAt w g n) (p : Nat) (h1 : 1 ≤ p) (h2 : p ≤ n) (hn : n ≤ 16) :
    Calls Tryz.prog 153 #[.pointer (some ⟨g, 0, none⟩), .int .i64 (p : Int)] w fun e w' => e = .returned (.int .i64 0) ∧ w = w' := by
  have HN := hide (number_ok p h1 (by omega))
  have c0 : w.cell? ⟨g, p * 4, none⟩ = some (.int .i64 1) := by
    have := h.cell (p * 4) (by omega)
    rw [show p * 4 = p * 4 + 0 from rfl, procF_at n p 0 h1 h2 (by omega)] at this
    exact this
  have h16 : (p : Int) < 17 := by omega
  clear h
  go_enter Tryz.func153, Tryz.ntmps153
  go_wp2_with fail
  refine (HN.out w).mono ?_
  rintro e w' ⟨rfl, rfl⟩
  go_wp2_with fail
  go_ret
  exact ⟨rfl, rfl⟩
def FkRel (n : Nat) (v : Value) (w0 wr : World) : Prop := ∃ k : Nat, v = .int .i64 (k : Int) ∧ 1 ≤ k ∧ k ≤ n + 1 ∧ w0 = wr
theorem procF_next (n : Nat) (hn : 1 ≤ n) (o : Nat) : (if (n + 1) * 4 ≤ o ∧ o < (n + 1) * 4 + 4 then some (([.int .i64 1, .int .i64 1, .int .i64 1, .int .i64 0] : List Value).getD (o - (n + 1) * 4) undef) else some (procF n o)) = some (procF (n + 1) o) := by
  by_cases h : (n + 1) * 4 ≤ o ∧ o < (n + 1) * 4 + 4
  · rw [if_pos h]
    unfold procF
    rw [if_pos (show 1 ≤ o / 4 ∧ o / 4 ≤ n + 1 by omega)]
    have e : o / 4 ≠ 1 := by omega
    rcases (show o = (n + 1) * 4 ∨ o = (n + 1) * 4 + 1 ∨ o = (n + 1) * 4 + 2 ∨ o = (n + 1) * 4 + 3 by omega) with rfl | rfl | rfl | rfl
    · rw [if_pos (show (n + 1) * 4 % 4 = 0 by omega), Nat.sub_self]; rfl
    · rw [if_neg (show ¬ ((n + 1) * 4 + 1) % 4 = 0 by omega), if_pos (show ((n + 1) * 4 + 1) % 4 = 1 by omega), if_neg e, Nat.add_sub_cancel_left]; rfl
    · rw [if_neg (show ¬ ((n + 1) * 4 + 2) % 4 = 0 by omega), if_neg (show ¬ ((n + 1) * 4 + 2) % 4 = 1 by omega), if_pos (show ((n + 1) * 4 + 2) % 4 = 2 by omega), Nat.add_sub_cancel_left]; rfl
    · rw [if_neg (show ¬ ((n + 1) * 4 + 3) % 4 = 0 by omega), if_neg (show ¬ ((n + 1) * 4 + 3) % 4 = 1 by omega), if_neg (show ¬ ((n + 1) * 4 + 3) % 4 = 2 by omega), Nat.add_sub_cancel_left]; rfl
  · rw [if_neg h]
    unfold procF
    by_cases h2 : 1 ≤ o / 4 ∧ o / 4 ≤ n
    · rw [if_pos h2, if_pos (show 1 ≤ o / 4 ∧ o / 4 ≤ n + 1 by omega)]
    · rw [if_neg h2, if_neg (show ¬ (1 ≤ o / 4 ∧ o / 4 ≤ n + 1) by omega)]
/-- The table with one more. -/
theorem ProcAt.fork {w : World} {g n : Nat} (h : ProcAt w g n) (hn : 1 ≤ n) (hn2 : n ≤ 15) : ProcAt (w.setCells g ((n + 1) * 4) [.int .i64 1, .int .i64 1, .int .i64 1, .int .i64 0]) g (n + 1) := by
  obtain ⟨cs, hb, hs, hc⟩ := h
  refine ⟨_, hb.setCells _ _, by rw [arrSet_size]; exact hs, fun o ho => ?_⟩
  rw [arrSet_get _ _ _ (by rw [hs]; simp only [List.length_cons, List.length_nil]; omega) o, ← procF_next n hn o]
  simp only [List.length_cons, List.length_nil]
  by_cases h : (n + 1) * 4 ≤ o ∧ o < (n + 1) * 4 + (0 + 1 + 1 + 1 + 1)
  · rw [if_pos h, if_pos (by omega)]
    have hlt : o - (n + 1) * 4 < 4 := by omega
    rw [List.getD_eq_getElem?_getD, List.getElem?_eq_getElem (by simpa using hlt)]
    rfl
  · rw [if_neg h, if_neg (by omega)]
    exact hc o ho
set_option maxHeartbeats 8000000 in
set_option maxRecDepth 100000 in
theorem procfork_ok {w : World} {g n : Nat} (h : ProcAt w g n) (hn : 1 ≤ n) (hn2 : n ≤ 15) :
    Calls Tryz.prog 185 #[.pointer (some ⟨g, 0, none⟩), .int .i64 1] w fun e w' => e = .returned (.tuple #[.int .i64 ((n + 1 : Nat) : Int), .int .i64 0]) ∧ ProcAt w' g (n + 1) ∧ KeepL g [185] [] [] w w' := by
  have HL := hide (procliving_ok h 1 (by omega) hn (by omega))
  have H := hide h
  clear h
  go_enter Tryz.func185, Tryz.ntmps185
  go_wp2_with fail
  refine HL.out.mono ?_
  rintro e w' ⟨rfl, rfl⟩
  go_upto_region 5 with fail
  go_loopw [7] (FkRel n · w) (fun v _ => n + 1 - (intOf v).toNat)
  case atStart => exact ⟨1, rfl, by omega, by omega, rfl⟩
  case round =>
    obtain ⟨k, rfl, hk1, hk2, rfl⟩ := hrel
    have hk16 : (k : Int) ≤ 16 := by omega
    have hk17 : (k : Int) < 17 := by omega
    by_cases hlt : k ≤ n
    · have c0 : w.cell? ⟨g, k * 4, none⟩ = some (.int .i64 1) := by
        have := H.out.cell (k * 4) (by omega)
        rw [show k * 4 = k * 4 + 0 from rfl, procF_at n k 0 hk1 hlt (by omega)] at this
        exact this
      go_wp2_with fail
      go_roundw
      case rel => exact ⟨k + 1, by first | rfl | go_num, by omega, by omega, rfl⟩
      case measure => simp [intOf]; omega
    · obtain rfl : k = n + 1 := by omega
      have c0 : w.cell? ⟨g, (n + 1) * 4, none⟩ = some (.int .i64 0) := by
        have := H.out.cell ((n + 1) * 4) (by omega)
        rw [show (n + 1) * 4 = (n + 1) * 4 + 0 from rfl, procF_off n (n + 1) 0 (by omega) (by omega)] at this
        exact this
      have c6 : w.cell? ⟨g, 6, none⟩ = some (.int .i64 1) := by
        have := H.out.cell (1 * 4 + 2) (by omega)
        rw [procF_at n 1 2 (by omega) hn (by omega)] at this
        exact this
      have hb1 : (0 : Int) ≤ (n : Int) + 1 := by omega
      have hb2 : (n : Int) + 1 < 17 := by omega
      have HTH := hide (show w.drew.there g ((n + 1) * 4) 4 from by
        obtain ⟨cs, hb, hs, hc⟩ := H.out
        exact hb.drew.there_ _ _ (by omega))
      have HPR := hide (ProcAt.fork (w := w.drew) H.out.drew hn hn2)
      have HKL := hide (show KeepL g [185] [] [] w (w.drew.setCells g ((n + 1) * 4) [.int .i64 1, .int .i64 1, .int .i64 1, .int .i64 0]) from by
        obtain ⟨cs, hb, hs, hc⟩ := H.out
        exact (KeepL.of ((Ext.refl w).drew) _ _ _ _).trans (KeepL.row hb.drew (.inl (by simp)) (Nat.le_refl _) (setCells_grown g _ _ _)))
      go_upto_region 8 with fail
      refine wp_region_any (by kernel_rfl) ?_
      try (change wpAny _ _ _ _ _ _ _ (World.drew _))
      refine take_op (i := 0) (d := some 26) (v := ?v1) rfl (by kernel_rfl) (by kernel_rfl) (by kernel_rfl) (fun _ _ _ h => h) (fun oi ho => ?hy1) ?rest1
      case hy1 => (simp only [List.getElem?_toArray, List.getElem?_cons_zero, Option.some.injEq] at ho; subst ho; refine Or.inl ⟨by rfl, fun w' => ?_⟩; go_simp; try (with_reducible rfl))
      simp only [Act.put, List.setIfInBounds_toArray, List.set_cons_zero, List.set_cons_succ]
      refine take_op (i := 1) (d := some 27) (v := ?v2) rfl (by kernel_rfl) (by kernel_rfl) (by kernel_rfl) (fun _ _ _ h => h) (fun oi ho => ?hy2) ?rest2
      case hy2 => (simp only [List.getElem?_toArray, List.getElem?_cons_succ, List.getElem?_cons_zero, Option.some.injEq] at ho; subst ho; refine Or.inl ⟨by rfl, fun w' => ?_⟩; go_simp; try (with_reducible rfl))
      simp only [Act.put, List.setIfInBounds_toArray, List.set_cons_zero, List.set_cons_succ]
      refine take_op (i := 2) (d := some 28) (v := ?v3) rfl (by kernel_rfl) (by kernel_rfl) (by kernel_rfl) (fun _ _ _ h => h) (fun oi ho => ?hy3) ?rest3
      case hy3 => (simp only [List.getElem?_toArray, List.getElem?_cons_succ, List.getElem?_cons_zero, Option.some.injEq] at ho; subst ho; refine Or.inl ⟨by rfl, fun w' => ?_⟩; go_simp; try (with_reducible rfl))
      simp only [Act.put, List.setIfInBounds_toArray, List.set_cons_zero, List.set_cons_succ]
      refine take_op (i := 3) (d := some 29) (v := ?v4) rfl (by kernel_rfl) (by kernel_rfl) (by kernel_rfl) (fun _ _ _ h => h) (fun oi ho => ?hy4) ?rest4
      case hy4 => (simp only [List.getElem?_toArray, List.getElem?_cons_succ, List.getElem?_cons_zero, Option.some.injEq] at ho; subst ho; refine Or.inl ⟨by rfl, fun w' => ?_⟩; go_simp; try (with_reducible rfl))
      simp only [Act.put, List.setIfInBounds_toArray, List.set_cons_zero, List.set_cons_succ]
      refine take_op (i := 4) (d := some 30) (v := ?v5) rfl (by kernel_rfl) (by kernel_rfl) (by kernel_rfl) (fun _ _ _ h => h) (fun oi ho => ?hy5) ?rest5
      case hy5 => (simp only [List.getElem?_toArray, List.getElem?_cons_succ, List.getElem?_cons_zero, Option.some.injEq] at ho; subst ho; refine Or.inl ⟨by rfl, fun w' => ?_⟩; go_simp; try (with_reducible rfl))
      simp only [Act.put, List.setIfInBounds_toArray, List.set_cons_zero, List.set_cons_succ]
      refine take_op (i := 5) (d := some 31) (v := ?v6) rfl (by kernel_rfl) (by kernel_rfl) (by kernel_rfl) (fun _ _ _ h => h) (fun oi ho => ?hy6) ?rest6
      case hy6 => (simp only [List.getElem?_toArray, List.getElem?_cons_succ, List.getElem?_cons_zero, Option.some.injEq] at ho; subst ho; refine Or.inl ⟨by rfl, fun w' => ?_⟩; go_simp; try (with_reducible rfl))
      simp only [Act.put, List.setIfInBounds_toArray, List.set_cons_zero, List.set_cons_succ]
      refine take_op (i := 6) (d := some 32) (v := ?v7) rfl (by kernel_rfl) (by kernel_rfl) (by kernel_rfl) (fun _ _ _ h => h) (fun oi ho => ?hy7) ?rest7
      case hy7 => (simp only [List.getElem?_toArray, List.getElem?_cons_succ, List.getElem?_cons_zero, Option.some.injEq] at ho; subst ho; refine Or.inl ⟨by rfl, fun w' => ?_⟩; go_simp; try (with_reducible rfl))
      simp only [Act.put, List.setIfInBounds_toArray, List.set_cons_zero, List.set_cons_succ]
      refine take_op (i := 7) (d := some 33) (v := ?v8) rfl (by kernel_rfl) (by kernel_rfl) (by kernel_rfl) (fun _ _ _ h => h) (fun oi ho => ?hy8) ?rest8
      case hy8 => (simp only [List.getElem?_toArray, List.getElem?_cons_succ, List.getElem?_cons_zero, Option.some.injEq] at ho; subst ho; refine Or.inl ⟨by rfl, fun w' => ?_⟩; go_simp; try (with_reducible rfl))
      simp only [Act.put, List.setIfInBounds_toArray, List.set_cons_zero, List.set_cons_succ]
      refine take_op (i := 8) (d := some 34) (v := ?v9) rfl (by kernel_rfl) (by kernel_rfl) (by kernel_rfl) (fun _ _ _ h => h) (fun oi ho => ?hy9) ?rest9
      case hy9 => (simp only [List.getElem?_toArray, List.getElem?_cons_succ, List.getElem?_cons_zero, Option.some.injEq] at ho; subst ho; refine Or.inl ⟨by rfl, fun w' => ?_⟩; go_simp; try (with_reducible rfl))
      simp only [Act.put, List.setIfInBounds_toArray, List.set_cons_zero, List.set_cons_succ]
      refine take_op (i := 11) (d := some 37) (v := ?v10) rfl (by kernel_rfl) (by kernel_rfl) (by kernel_rfl) (fun _ _ _ h => h) (fun oi ho => ?hy10) ?rest10
      case hy10 => (simp only [List.getElem?_toArray, List.getElem?_cons_succ, List.getElem?_cons_zero, Option.some.injEq] at ho; subst ho; refine Or.inl ⟨by rfl, fun w' => ?_⟩; go_simp; try (with_reducible rfl))
      simp only [Act.put, List.setIfInBounds_toArray, List.set_cons_zero, List.set_cons_succ]
      refine take_op (i := 12) (d := some 38) (v := ?v11) rfl (by kernel_rfl) (by kernel_rfl) (by kernel_rfl) (fun _ _ _ h => h) (fun oi ho => ?hy11) ?rest11
      case hy11 => (simp only [List.getElem?_toArray, List.getElem?_cons_succ, List.getElem?_cons_zero, Option.some.injEq] at ho; subst ho; refine Or.inl ⟨by rfl, fun w' => ?_⟩; go_simp; try (with_reducible rfl))
      simp only [Act.put, List.setIfInBounds_toArray, List.set_cons_zero, List.set_cons_succ]
      refine wpAny_ready (rs := [9]) (by kernel_rfl) (by simp) ?_
      refine cons_op (by decide) (fun o ho K hK => ?_) ?_
      simp only [List.getElem?_toArray, List.getElem?_cons_succ, List.getElem?_cons_zero, Option.some.injEq] at ho
      subst ho
      go_simp
      refine hK _ _ ?_
      clear hK K
      refine take_op (i := 10) (d := some 36) (v := ?v12) rfl (by kernel_rfl) (by kernel_rfl) (by kernel_rfl) (fun _ _ _ h => h) (fun oi ho => ?hy12) ?rest12
      case hy12 => (simp only [List.getElem?_toArray, List.getElem?_cons_succ, List.getElem?_cons_zero, Option.some.injEq] at ho; subst ho; refine Or.inl ⟨by rfl, fun w' => ?_⟩; go_simp; try (with_reducible rfl))
      simp only [Act.put, List.setIfInBounds_toArray, List.set_cons_zero, List.set_cons_succ]
      refine take_op (i := 13) (d := some 39) (v := ?v13) rfl (by kernel_rfl) (by kernel_rfl) (by kernel_rfl) (fun _ _ _ h => h) (fun oi ho => ?hy13) ?rest13
      case hy13 => (simp only [List.getElem?_toArray, List.getElem?_cons_succ, List.getElem?_cons_zero, Option.some.injEq] at ho; subst ho; refine Or.inl ⟨by rfl, fun w' => ?_⟩; go_simp; try (with_reducible rfl))
      simp only [Act.put, List.setIfInBounds_toArray, List.set_cons_zero, List.set_cons_succ]
      refine wpAny_ready (rs := [14]) (by kernel_rfl) (by simp) ?_
      refine cons_op (by decide) (fun o ho K hK => ?_) ?_
      simp only [List.getElem?_toArray, List.getElem?_cons_succ, List.getElem?_cons_zero, Option.some.injEq] at ho
      subst ho
      refine step_store_mid (by rfl) 182 (.tmp 39) (.tmp 36) (by rfl) g ((n + 1) * 4) #[.int .i64 1, .int .i64 1, .int .i64 1, .int .i64 0] (by rfl) (by rfl) HTH.out entry_size (ones4 _ _ _ _) ?_
      refine hK _ _ ?_
      clear hK K
      simp only [Act.put]
      refine wpAny_done (by kernel_rfl) ?_ _
      rotate_left
      exact AllReady.nil
      exact AllReady.nil
      all_goals
        go_wp2_with fail
        go_ret2
        exact ⟨by first | rfl | go_num, HPR.out, HKL.out⟩
end Go.Proofs.YthmojneobkaolaaGreatDoor
