/- The table of what is open: nothing is. -/
import Derived.Test.YthmojneobkaolaaGreatDoorTpProc2
import Derived.Test.YthmojneobkaolaaGreatDoorTpSig
namespace Go.Proofs.YthmojneobkaolaaGreatDoor
open Go.RowKit
set_option linter.unusedVariables false

theorem open_zero : Tryz.zeroCells180 = (List.replicate 328 (.int .i64 0)).toArray.mapIdx (fun i v => if i < 192 ∧ i % 6 = 3 then .bool false else v) := by kernel_rfl
theorem open_size : Tryz.zeroCells180.size = 328 := by kernel_rfl
/-- No descriptor is used. -/
def OpenAt (w : World) (g : Nat) : Prop := ∃ cs, Blk w g 180 cs ∧ cs.size = 328 ∧ ∀ o, 192 ≤ o → o < 328 → cs[o]? = some (.int .i64 0)
theorem opennew_ok (w : World) : Calls Tryz.prog 30 #[] w fun e w' => ∃ g, e = .returned (.pointer (some ⟨g, 0, none⟩)) ∧ OpenAt w' g ∧ w.heap.size ≤ g ∧ Ext w w' := by
  go_enter Tryz.func30, Tryz.ntmps30
  go_wp2_with fail
  go_ret
  refine ⟨w.heap.size, rfl, ⟨_, Blk.new _ _ _, open_size, fun o h1 h2 => ?_⟩, Nat.le_refl _, (Ext.refl w).alloc _⟩
  rw [open_zero]
  simp only [Array.getElem?_mapIdx, List.getElem?_toArray, List.getElem?_replicate, if_pos h2, Option.map_some]
  rw [if_neg (by omega)]
theorem owner_ok (p : Nat) (h1 : 1 ≤ p) (h2 : p ≤ 16) (w : World) : Calls Tryz.prog 154 #[.int .i64 (p : Int)] w fun e w' => e = .returned (.bool true) ∧ w = w' := by
  have t1 : (1 : Int) ≤ (p : Int) := by omega
  have t2 : (p : Int) ≤ 16 := by omega
  go_enter Tryz.func154, Tryz.ntmps154
  go_wp2_with fail
  go_ret
  exact ⟨rfl, rfl⟩
def zero8 : List Value := [.int .i64 0, .int .i64 0, .int .i64 0, .int .i64 0, .int .i64 0, .int .i64 0, .int .i64 0, .int .i64 0]
theorem zero8_size : (Tryz.prog.info? 177).map (·.size) = some zero8.length := by kernel_rfl
theorem zero8_one : zero8.toArray.all (·.oneCell') = true := by simp [zero8, Value.oneCell']
theorem zero8_at (i : Nat) (h : i < 8) : zero8.toArray[i]? = some (.int .i64 0) := by
  rcases (show i = 0 ∨ i = 1 ∨ i = 2 ∨ i = 3 ∨ i = 4 ∨ i = 5 ∨ i = 6 ∨ i = 7 by omega) with rfl | rfl | rfl | rfl | rfl | rfl | rfl | rfl <;> rfl
theorem OpenAt.range {w : World} {g : Nat} (h : OpenAt w g) (p : Nat) (hp : p ≤ 16) : w.rangeAt g (192 + p * 8) zero8 := by
  obtain ⟨cs, hb, hs, hc⟩ := h
  refine hb.range _ _ fun j v hv => ?_
  have hj : j < 8 := (List.getElem?_eq_some_iff.1 hv).1
  have h1 := zero8_at j hj
  rw [List.getElem?_toArray, hv] at h1
  injection h1 with h1
  rw [h1]
  exact hc _ (by omega) (by omega)
theorem OpenAt.there {w : World} {g : Nat} (h : OpenAt w g) (p : Nat) (hp : p ≤ 16) : w.there g (192 + p * 8) 8 := by
  obtain ⟨cs, hb, hs, hc⟩ := h
  exact hb.there_ _ _ (by omega)
theorem OpenAt.set {w : World} {g : Nat} (h : OpenAt w g) (p : Nat) (hp : p ≤ 16) : OpenAt (w.setCells g (192 + p * 8) zero8) g := by
  obtain ⟨cs, hb, hs, hc⟩ := h
  refine ⟨_, hb.setCells _ _, by rw [arrSet_size]; exact hs, fun o h1 h2 => ?_⟩
  rw [arrSet_get _ _ _ (by rw [hs]; show 192 + p * 8 + 8 ≤ 328; omega) o]
  by_cases h : 192 + p * 8 ≤ o ∧ o < 192 + p * 8 + zero8.length
  · rw [if_pos h]
    have h3 : o - (192 + p * 8) < 8 := by have := h.2; simp only [zero8, List.length_cons, List.length_nil] at this; omega
    have := zero8_at _ h3
    rwa [List.getElem?_toArray] at this
  · rw [if_neg h]
    exact hc o h1 h2
theorem OpenAt.drew {w : World} {g : Nat} (h : OpenAt w g) : OpenAt w.drew g := h
def OfRel (v : Value) (w0 wr : World) : Prop := ∃ i : Nat, v = .int .i64 (i : Int) ∧ i ≤ 8 ∧ w0 = wr
set_option maxHeartbeats 8000000 in
set_option maxRecDepth 100000 in
theorem openfork_ok {w : World} {g : Nat} (h : OpenAt w g) (p c : Nat) (h1 : 1 ≤ p) (h2 : p ≤ 16) (h3 : 1 ≤ c) (h4 : c ≤ 16) (hne : p ≠ c) :
    Calls Tryz.prog 186 #[.pointer (some ⟨g, 0, none⟩), .int .i64 (p : Int), .int .i64 (c : Int)] w fun e w' => e = .returned (.int .i64 0) ∧ OpenAt w' g ∧ KeepL g [180] [] [] w w' := by
  obtain ⟨i0, hi0, hz0, hz1, hz2⟩ := info_parts int_info
  have HO1 := hide (owner_ok p h1 h2 w)
  have HO2 := hide (owner_ok c h3 h4 w)
  have H := hide h
  have hp17 : (p : Int) < 17 := by omega
  have hc17 : (c : Int) < 17 := by omega
  have hpc : ((p : Int) == (c : Int)) = false := beq_eq_false_iff_ne.2 (by omega)
  have HI := hide (fun (i : Nat) (hi : i < 8) (W : World) => index_arr (P := Tryz.prog) (t := 177) Tryz.underlying177 Tryz.underlying3 rfl hi0 hz1 zero8.toArray i hi (zero8_at i hi) .i64 W)
  have HSZ := hide zero8_size
  have HLC := hide (h.range c h4)
  clear h
  go_enter Tryz.func186, Tryz.ntmps186
  go_wp2_with fail
  refine HO1.out.mono ?_
  rintro e w' ⟨rfl, rfl⟩
  go_wp2_with fail
  refine HO2.out.mono ?_
  rintro e w' ⟨rfl, rfl⟩
  go_upto_region 4 with ((with_reducible refine wpList_load_mid rfl 177 (.tmp 23) rfl g (192 + c * 8) rfl zero8 _ HLC.out Tryz.underlying177 rfl HSZ.out ?_))
  clear HLC HO1 HO2
  have HZ := hide (show zero8.toArray = zero8.toArray from rfl)
  go_loopw [25] (OfRel · w) (fun v _ => 8 - (intOf v).toNat)
  case atStart => exact ⟨0, rfl, by omega, rfl⟩
  case round =>
    obtain ⟨i, rfl, hi, rfl⟩ := hrel
    by_cases hlt : i < 8
    · have hlt' : (i : Int) < 8 := by omega
      have hix := HI.out i hlt w
      generalize zero8.toArray = ZA at *
      go_wp2_with fail
      go_roundw
      case rel => exact ⟨i + 1, by first | rfl | go_num, by omega, rfl⟩
      case measure => simp [intOf]; omega
    · obtain rfl : i = 8 := by omega
      have HLP := hide (H.out.drew.range p h2)
      have HTC := hide (H.out.drew.there c h4)
      have HO := hide (OpenAt.set (w := w.drew) H.out.drew c h4)
      have HK := hide (show KeepL g [180] [] [] w (w.drew.setCells g (192 + c * 8) zero8) from by
        obtain ⟨cs, hb, hs, hc⟩ := H.out
        exact (KeepL.of ((Ext.refl w).drew) _ _ _ _).trans (KeepL.row hb.drew (.inl (by simp)) (Nat.le_refl _) (setCells_grown g _ _ _)))
      go_upto_region 11 with fail
      refine wp_region_any (by kernel_rfl) ?_
      try (change wpAny _ _ _ _ _ _ _ (World.drew _))
      refine take_op (i := 0) (d := some 34) (v := ?v1) rfl (by kernel_rfl) (by kernel_rfl) (by kernel_rfl) (fun _ _ _ h => h) (fun oi ho => ?hy1) ?rest1
      case hy1 => (simp only [List.getElem?_toArray, List.getElem?_cons_zero, Option.some.injEq] at ho; subst ho; refine Or.inl ⟨by rfl, fun w' => ?_⟩; go_simp; try (with_reducible rfl))
      simp only [Act.put, List.setIfInBounds_toArray, List.set_cons_zero, List.set_cons_succ]
      refine take_op (i := 1) (d := some 35) (v := ?v2) rfl (by kernel_rfl) (by kernel_rfl) (by kernel_rfl) (fun _ _ _ h => h) (fun oi ho => ?hy2) ?rest2
      case hy2 => (simp only [List.getElem?_toArray, List.getElem?_cons_succ, List.getElem?_cons_zero, Option.some.injEq] at ho; subst ho; refine Or.inl ⟨by rfl, fun w' => ?_⟩; go_simp; try (with_reducible rfl))
      simp only [Act.put, List.setIfInBounds_toArray, List.set_cons_zero, List.set_cons_succ]
      refine take_op (i := 2) (d := some 36) (v := ?v3) rfl (by kernel_rfl) (by kernel_rfl) (by kernel_rfl) (fun _ _ _ h => h) (fun oi ho => ?hy3) ?rest3
      case hy3 => (simp only [List.getElem?_toArray, List.getElem?_cons_succ, List.getElem?_cons_zero, Option.some.injEq] at ho; subst ho; refine Or.inl ⟨by rfl, fun w' => ?_⟩; go_simp; try (with_reducible rfl))
      simp only [Act.put, List.setIfInBounds_toArray, List.set_cons_zero, List.set_cons_succ]
      refine take_op (i := 3) (d := some 37) (v := ?v4) rfl (by kernel_rfl) (by kernel_rfl) (by kernel_rfl) (fun _ _ _ h => h) (fun oi ho => ?hy4) ?rest4
      case hy4 => (simp only [List.getElem?_toArray, List.getElem?_cons_succ, List.getElem?_cons_zero, Option.some.injEq] at ho; subst ho; refine Or.inl ⟨by rfl, fun w' => ?_⟩; go_simp; try (with_reducible rfl))
      simp only [Act.put, List.setIfInBounds_toArray, List.set_cons_zero, List.set_cons_succ]
      refine take_op (i := 4) (d := some 38) (v := ?v5) rfl (by kernel_rfl) (by kernel_rfl) (by kernel_rfl) (fun _ _ _ h => h) (fun oi ho => ?hy5) ?rest5
      case hy5 => (simp only [List.getElem?_toArray, List.getElem?_cons_succ, List.getElem?_cons_zero, Option.some.injEq] at ho; subst ho; refine Or.inl ⟨by rfl, fun w' => ?_⟩; go_simp; try (with_reducible rfl))
      simp only [Act.put, List.setIfInBounds_toArray, List.set_cons_zero, List.set_cons_succ]
      refine take_op (i := 5) (d := some 39) (v := ?v6) rfl (by kernel_rfl) (by kernel_rfl) (by kernel_rfl) (fun _ _ _ h => h) (fun oi ho => ?hy6) ?rest6
      case hy6 => (simp only [List.getElem?_toArray, List.getElem?_cons_succ, List.getElem?_cons_zero, Option.some.injEq] at ho; subst ho; refine Or.inl ⟨by rfl, fun w' => ?_⟩; go_simp; try (with_reducible rfl))
      simp only [Act.put, List.setIfInBounds_toArray, List.set_cons_zero, List.set_cons_succ]
      refine take_op (i := 6) (d := some 40) (v := ?v7) rfl (by kernel_rfl) (by kernel_rfl) (by kernel_rfl) (fun _ _ _ h => h) (fun oi ho => ?hy7) ?rest7
      case hy7 => (simp only [List.getElem?_toArray, List.getElem?_cons_succ, List.getElem?_cons_zero, Option.some.injEq] at ho; subst ho; refine Or.inl ⟨by rfl, fun w' => ?_⟩; go_simp; try (with_reducible rfl))
      simp only [Act.put, List.setIfInBounds_toArray, List.set_cons_zero, List.set_cons_succ]
      refine take_op (i := 8) (d := some 42) (v := ?v8) rfl (by kernel_rfl) (by kernel_rfl) (by kernel_rfl) (fun _ _ _ h => h) (fun oi ho => ?hy8) ?rest8
      case hy8 => (simp only [List.getElem?_toArray, List.getElem?_cons_succ, List.getElem?_cons_zero, Option.some.injEq] at ho; subst ho; refine Or.inl ⟨by rfl, fun w' => ?_⟩; go_simp; try (with_reducible rfl))
      simp only [Act.put, List.setIfInBounds_toArray, List.set_cons_zero, List.set_cons_succ]
      refine take_op (i := 9) (d := some 43) (v := ?v9) rfl (by kernel_rfl) (by kernel_rfl) (by kernel_rfl) (fun _ _ _ h => h) (fun oi ho => ?hy9) ?rest9
      case hy9 => (simp only [List.getElem?_toArray, List.getElem?_cons_succ, List.getElem?_cons_zero, Option.some.injEq] at ho; subst ho; refine Or.inl ⟨by rfl, fun w' => ?_⟩; go_simp; try (with_reducible rfl))
      simp only [Act.put, List.setIfInBounds_toArray, List.set_cons_zero, List.set_cons_succ]
      refine wpAny_ready (rs := [7]) (by kernel_rfl) (by simp) ?_
      refine cons_op (by decide) (fun o ho K hK => ?_) ?_
      simp only [List.getElem?_toArray, List.getElem?_cons_succ, List.getElem?_cons_zero, Option.some.injEq] at ho
      subst ho
      refine step_load_mid (by rfl) 177 (.tmp 40) (by rfl) g (192 + p * 8) (by rfl) zero8 _ HLP.out Tryz.underlying177 rfl HSZ.out ?_
      refine hK _ _ ?_
      clear hK K
      simp only [Act.put, List.setIfInBounds_toArray, List.set_cons_zero, List.set_cons_succ]
      refine take_op (i := 10) (d := some 44) (v := ?v10) rfl (by kernel_rfl) (by kernel_rfl) (by kernel_rfl) (fun _ _ _ h => h) (fun oi ho => ?hy10) ?rest10
      case hy10 => (simp only [List.getElem?_toArray, List.getElem?_cons_succ, List.getElem?_cons_zero, Option.some.injEq] at ho; subst ho; refine Or.inl ⟨by rfl, fun w' => ?_⟩; go_simp; try (with_reducible rfl))
      simp only [Act.put, List.setIfInBounds_toArray, List.set_cons_zero, List.set_cons_succ]
      refine wpAny_ready (rs := [11]) (by kernel_rfl) (by simp) ?_
      refine cons_op (by decide) (fun o ho K hK => ?_) ?_
      simp only [List.getElem?_toArray, List.getElem?_cons_succ, List.getElem?_cons_zero, Option.some.injEq] at ho
      subst ho
      refine step_store_mid (by rfl) 177 (.tmp 44) (.tmp 41) (by rfl) g (192 + c * 8) zero8.toArray (by rfl) (by rfl) HTC.out zero8_size zero8_one ?_
      refine hK _ _ ?_
      clear hK K
      simp only [Act.put]
      refine wpAny_done (by kernel_rfl) ?_ _
      rotate_left
      exact AllReady.nil
      exact AllReady.nil
      all_goals
        have HLP2 := hide (HO.out.range p h2)
        change Exit.then _ _ _ _ (w.drew.setCells g (192 + c * 8) zero8)
        generalize w.drew.setCells _ _ _ = w2 at *
        go_upto_region 13 with ((with_reducible refine wpList_load_mid rfl 177 (.tmp 49) rfl g (192 + p * 8) rfl zero8 _ HLP2.out Tryz.underlying177 rfl HSZ.out ?_))
        go_loopw [51] (OfRel · w2) (fun v _ => 8 - (intOf v).toNat)
        case atStart => exact ⟨0, rfl, by omega, rfl⟩
        case round =>
          obtain ⟨i, rfl, hi, rfl⟩ := hrel
          by_cases hlt2 : i < 8
          · have hlt' : (i : Int) < 8 := by omega
            have hix := HI.out i hlt2 w2
            generalize zero8.toArray = ZA at *
            go_wp2_with fail
            go_roundw
            case rel => exact ⟨i + 1, by first | rfl | go_num, by omega, rfl⟩
            case measure => simp [intOf]; omega
          · obtain rfl : i = 8 := by omega
            go_wp2_with fail
            go_ret
            exact ⟨rfl, HO.out, HK.out⟩
end Go.Proofs.YthmojneobkaolaaGreatDoor
