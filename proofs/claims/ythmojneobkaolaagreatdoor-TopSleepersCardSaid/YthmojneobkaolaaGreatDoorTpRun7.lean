/- The run of processors, weakly: a new task. -/
import Derived.Test.YthmojneobkaolaaGreatDoorTpRun6
namespace Go.Proofs.YthmojneobkaolaaGreatDoor
open Go.RowKit
set_option linter.unusedVariables false

theorem tinfo : (Tryz.prog.info? 118).map (fun i => (i.zero, i.size, i.bytes)) = some (some (.agg #[.int .i64 0, .int .i64 0, .int .i64 0, .int .i64 0, .int .i64 0, .int .i64 0, .int .i64 0, .int .i64 0, .int .i64 0, .int .i64 0, .int .i64 0, .int .i64 0, .bool false, .bool false, .int .i64 0]), 15, 112) := by kernel_rfl
/-- The run, with or without tasks. -/
structure RunA (b : Nat) (w : World) (hr : Nat) (A : Option Addr) (n cp : Nat) (tick stamp : Int) (xs : List Value) : Prop where
  box : Blk w hr 114 #[.int .i64 1, .int .i64 tick, .int .i64 stamp, .slice A n cp]
  ge : b ≤ hr
  row : w.ownsRow b 118 15 (.slice A n cp) n xs
  kind : KindT xs n
theorem RunA.ext {b : Nat} {w w' : World} {hr : Nat} {A : Option Addr} {n cp : Nat} {tick stamp : Int} {xs : List Value} (h : RunA b w hr A n cp tick stamp xs) (hx : Ext w w') : RunA b w' hr A n cp tick stamp xs := ⟨h.box.ext hx, h.ge, hx.own h.row, h.kind⟩
theorem RunA.some {b : Nat} {w : World} {hr : Nat} {A : Option Addr} {n cp : Nat} {tick stamp : Int} {xs : List Value} (h : RunA b w hr A n cp tick stamp xs) (hn : 0 < n) : ∃ g, A = Option.some ⟨g, 0, none⟩ ∧ RunM b w hr g n cp tick stamp xs := by
  obtain ⟨g, hA, -⟩ := own_addr h.row hn
  subst hA
  exact ⟨g, rfl, h.box, h.ge, h.row, h.kind⟩
theorem RunM.any {b : Nat} {w : World} {hr g n cp : Nat} {tick stamp : Int} {xs : List Value} (h : RunM b w hr g n cp tick stamp xs) : RunA b w hr (Option.some ⟨g, 0, none⟩) n cp tick stamp xs := ⟨h.box, h.ge, h.row, h.kind⟩
set_option maxHeartbeats 8000000 in
set_option maxRecDepth 100000 in
theorem lowA_any {b : Nat} {w : World} {hr : Nat} {A : Option Addr} {n cp : Nat} {tick stamp : Int} {xs : List Value} (h : RunA b w hr A n cp tick stamp xs) (hn : n ≤ 100) :
    Calls Tryz.prog 117 #[.pointer (some ⟨hr, 0, none⟩)] w fun e w' => (∃ (z : Int) (k : Bool), e = .returned (.tuple #[.int .i64 z, .bool k])) ∧ Ext w w' := by
  rcases Nat.eq_zero_or_pos n with h0 | h0
  · subst h0
    have c3 : w.cell? ⟨hr, 3, none⟩ = Option.some (.slice A 0 cp) := h.box.cell 3
    clear h
    go_enter Tryz.func117, Tryz.ntmps117
    go_upto_region 3 with fail
    go_loopw [4, 5, 13] (LwRel 0 · · · w) (fun _ _ v _ => 0 - (intOf v).toNat)
    case atStart => exact ⟨0, 0, false, rfl, rfl, rfl, Nat.zero_le _, Ext.refl _⟩
    case round =>
      obtain ⟨i, z, k, rfl, rfl, rfl, hi, hx⟩ := hrel
      have HX := hide hx
      obtain rfl : i = 0 := by omega
      clear hx
      go_wp2_with fail
      go_ret2
      exact ⟨⟨_, _, rfl⟩, HX.out⟩
  · obtain ⟨g, rfl, hM⟩ := h.some h0
    exact low_any hM hn
set_option maxHeartbeats 8000000 in
set_option maxRecDepth 100000 in
theorem findA_any {b : Nat} {w : World} {hr : Nat} {A : Option Addr} {n cp : Nat} {tick stamp : Int} {xs : List Value} (h : RunA b w hr A n cp tick stamp xs) (hn : n ≤ 100) (t : Int) :
    Calls Tryz.prog 77 #[.pointer (some ⟨hr, 0, none⟩), .int .i64 t] w fun e w' => (∃ v, e = .returned v ∧ (v = .pointer none ∨ 0 < n ∧ ∃ a, v = .pointer (some a))) ∧ w = w' := by
  rcases Nat.eq_zero_or_pos n with h0 | h0
  · subst h0
    have c3 : w.cell? ⟨hr, 3, none⟩ = Option.some (.slice A 0 cp) := h.box.cell 3
    clear h
    go_enter Tryz.func77, Tryz.ntmps77
    go_upto_region 2 with fail
    go_loopw [11] (FindRel 0 · w) (fun v _ => 0 - (intOf v).toNat)
    case atStart => exact ⟨0, rfl, Nat.zero_le _, rfl⟩
    case round =>
      obtain ⟨i, rfl, hi, rfl⟩ := hrel
      obtain rfl : i = 0 := by omega
      go_wp2_with fail
      go_ret
      exact ⟨⟨_, rfl, .inl rfl⟩, rfl⟩
  · obtain ⟨g, rfl, hM⟩ := h.some h0
    refine (find_any hM hn t).mono ?_
    rintro e w' ⟨⟨v, rfl, hv⟩, rfl⟩
    rcases hv with rfl | ⟨i, hi, rfl⟩
    · exact ⟨⟨_, rfl, .inl rfl⟩, rfl⟩
    · exact ⟨⟨_, rfl, .inr ⟨h0, _, rfl⟩⟩, rfl⟩
theorem i64_small (n : Nat) (h : n ≤ 1000000) : IntKind.i64.wrap (n : Int) = (n : Int) := by
  unfold IntKind.wrap
  simp [IntKind.signed, IntKind.bits]
  omega
def tL (t v pin : Int) : List Value := [.int .i64 t, .int .i64 1, .int .i64 10, .int .i64 0, .int .i64 0, .int .i64 0, .int .i64 0, .int .i64 0, .int .i64 0, .int .i64 v, .int .i64 0, .int .i64 pin, .bool true, .bool false, .int .i64 0]
theorem tL_kind (t v pin : Int) : ∀ f, f < 15 → ∃ u, (tL t v pin)[f]? = Option.some u ∧ kindT f u := by
  intro f hf
  rcases (show f = 0 ∨ f = 1 ∨ f = 2 ∨ f = 3 ∨ f = 4 ∨ f = 5 ∨ f = 6 ∨ f = 7 ∨ f = 8 ∨ f = 9 ∨ f = 10 ∨ f = 11 ∨ f = 12 ∨ f = 13 ∨ f = 14 by omega) with rfl | rfl | rfl | rfl | rfl | rfl | rfl | rfl | rfl | rfl | rfl | rfl | rfl | rfl | rfl <;> first | exact ⟨_, rfl, rfl⟩ | exact ⟨_, rfl, ⟨_, rfl⟩⟩
/-- A block that is one element. -/
theorem Blk.one {w : World} {g : Nat} {t : TypeId} {l : List Value} {k : Nat} (h : Blk w g t l.toArray) (hl : l.length = k) : Reads w w.heap.size k (Option.some ⟨g, 0, none⟩) 1 l := by
  refine ⟨by omega, fun _ => ⟨_, rfl, h.lt, fun j u hu => ?_⟩⟩
  rw [add_lit, Nat.zero_add, h.cell]
  exact (List.getElem?_toArray).trans hu
set_option maxHeartbeats 8000000 in
set_option maxRecDepth 100000 in
theorem enter_any {b : Nat} {w : World} {hr : Nat} {A : Option Addr} {n cp : Nat} {tick stamp : Int} {xs : List Value} (h : RunA b w hr A n cp tick stamp xs) (hn : n ≤ 90) (hbw : b ≤ w.heap.size) (t : Int) :
    Calls Tryz.prog 78 #[.pointer (some ⟨hr, 0, none⟩), .agg #[.int .i64 t, .int .i64 1, .int .i64 10, .int .i64 0, .int .i64 0, .int .i64 0, .int .i64 0, .int .i64 0, .int .i64 0, .int .i64 0, .int .i64 0, .int .i64 0, .bool false, .bool false, .int .i64 0]] w fun e w' => e = .returned (.tuple #[]) ∧ ∃ g cp', RunK b w hr g (n + 1) cp' w' := by
  have HB0 := hide (Blk.new w 118 #[.int .i64 t, .int .i64 1, .int .i64 10, .int .i64 0, .int .i64 0, .int .i64 0, .int .i64 0, .int .i64 0, .int .i64 0, .int .i64 0, .int .i64 0, .int .i64 0, .bool false, .bool false, .int .i64 0])
  have HX0 := hide ((Ext.refl w).alloc (.cells #[.int .i64 t, .int .i64 1, .int .i64 10, .int .i64 0, .int .i64 0, .int .i64 0, .int .i64 0, .int .i64 0, .int .i64 0, .int .i64 0, .int .i64 0, .int .i64 0, .bool false, .bool false, .int .i64 0] 118))
  have H := hide h
  have hlt := h.box.lt
  obtain ⟨i0, hi0, hz0, hz1, hz2⟩ := info_parts tinfo
  clear h
  go_enter Tryz.func78, Tryz.ntmps78
  go_upto_region 1 with fail
  obtain ⟨gx, hgx⟩ : ∃ gx, w.heap.size = gx := ⟨_, rfl⟩
  have hgw : w.heap.size ≤ gx := by omega
  have hne : gx ≠ hr := by omega
  have hne' : hr ≠ gx := by omega
  rw [hgx] at HB0 ⊢
  generalize w.alloc _ = W0 at *
  have c0 : W0.cell? ⟨hr, 0, none⟩ = Option.some (.int .i64 1) := (H.out.box.ext HX0.out).cell 0
  have k11 : W0.cell? ⟨gx, 11, none⟩ = Option.some (.int .i64 0) := HB0.out.cell 11
  have k12 : W0.cell? ⟨gx, 12, none⟩ = Option.some (.bool false) := HB0.out.cell 12
  have f11 := HB0.out.frozen 11
  have f12 := HB0.out.frozen 12
  go_upto_region 2 with fail
  generalize hW : World.setCell _ _ _ = W1 at *
  have HX1 := hide (show Ext w W1 from by rw [← hW]; exact (HX0.out.setCell (p := ⟨gx, 11, none⟩) hgw _).setCell (p := ⟨gx, 12, none⟩) hgw _)
  obtain ⟨pin, hb1⟩ : ∃ pin, Blk W1 gx 118 (tL t 0 pin).toArray := ⟨_, by rw [← hW]; exact (HB0.out.set_ 11 _).set_ 12 _⟩
  have HB1 := hide hb1
  have HLO := hide (lowA_any (H.out.ext HX1.out) (by omega))
  clear hW hb1 HB0 HX0 c0 k11 k12 f11 f12
  go_wp2_with fail
  refine HLO.out.mono ?_
  rintro e w2 ⟨⟨z, k, rfl⟩, hx2⟩
  have HX2 := hide (HX1.out.trans hx2)
  have HB2 := hide (HB1.out.ext hx2)
  clear hx2 HLO HX1 HB1
  cases k with
  | false =>
    have HX3 := HX2
    have HB3 := HB2
    have HLD := hide (Blk.all (l := tL t 0 pin) HB3.out.drew)
    have HSZ := hide (show (Tryz.prog.info? 118).map (·.size) = Option.some (tL t 0 pin).length from task_size)
    have HON := hide (show ∀ u ∈ tL t 0 pin, u.oneCell' = true from by simp [tL, Value.oneCell'])
    have HXA := hide (show Ext w (w2.drew.alloc (.cells (tL t 0 pin).toArray 118)) from HX3.out.drew.alloc _)
    have HOI := hide (H.out.ext HXA.out).row
    have HHB := hide (H.out.ext HXA.out).box
    have HHN := hide (own_blk_ne (H.out.ext HXA.out).row (H.out.ext HXA.out).box (by decide)).symm
    have HRR := hide (Blk.one (Blk.new w2.drew 118 (tL t 0 pin).toArray) rfl)
    have HBW := hide (Nat.le_trans hbw HXA.out.size)
    have HKA := hide (KeepL.of HXA.out b [114, 118] [] [])
    have c3 : w2.cell? ⟨hr, 3, none⟩ = Option.some (.slice A n cp) := (H.out.ext HX3.out).box.cell 3
    have c3a : (w2.alloc (.cells (tL t 0 pin).toArray 118)).cell? ⟨hr, 3, none⟩ = Option.some (.slice A n cp) := (H.out.ext (HX3.out.alloc _)).box.cell 3
    simp only [tL] at c3a
    go_upto_region 5 with fail
    refine wp_region_any (by kernel_rfl) ?_
    try (change wpAny _ _ _ _ _ _ _ (World.drew _))
    refine take_op (i := 0) (d := some 27) (v := ?v1001) rfl (by kernel_rfl) (by kernel_rfl) (by kernel_rfl) (fun _ _ _ h => h) (fun oi ho => ?hy1001) ?rest1001
    case hy1001 => (simp only [List.getElem?_toArray, List.getElem?_cons_zero, Option.some.injEq] at ho; subst ho; refine Or.inl ⟨by rfl, fun w' => ?_⟩; go_simp; try (with_reducible rfl))
    simp only [Act.put, List.setIfInBounds_toArray, List.set_cons_zero, List.set_cons_succ]
    refine take_op (i := 1) (d := some 28) (v := ?v1002) rfl (by kernel_rfl) (by kernel_rfl) (by kernel_rfl) (fun _ _ _ h => h) (fun oi ho => ?hy1002) ?rest1002
    case hy1002 => (simp only [List.getElem?_toArray, List.getElem?_cons_succ, List.getElem?_cons_zero, Option.some.injEq] at ho; subst ho; refine Or.inl ⟨by rfl, fun w' => ?_⟩; go_simp; try (with_reducible rfl))
    simp only [Act.put, List.setIfInBounds_toArray, List.set_cons_zero, List.set_cons_succ]
    refine take_op (i := 2) (d := some 29) (v := ?v1003) rfl (by kernel_rfl) (by kernel_rfl) (by kernel_rfl) (fun _ _ _ h => h) (fun oi ho => ?hy1003) ?rest1003
    case hy1003 => (simp only [List.getElem?_toArray, List.getElem?_cons_succ, List.getElem?_cons_zero, Option.some.injEq] at ho; subst ho; refine Or.inl ⟨by rfl, fun w' => ?_⟩; go_simp; try (with_reducible rfl))
    simp only [Act.put, List.setIfInBounds_toArray, List.set_cons_zero, List.set_cons_succ]
    refine take_op (i := 3) (d := some 30) (v := ?v1004) rfl (by kernel_rfl) (by kernel_rfl) (by kernel_rfl) (fun _ _ _ h => h) (fun oi ho => ?hy1004) ?rest1004
    case hy1004 => (simp only [List.getElem?_toArray, List.getElem?_cons_succ, List.getElem?_cons_zero, Option.some.injEq] at ho; subst ho; refine Or.inl ⟨by rfl, fun w' => ?_⟩; go_simp; try (with_reducible rfl))
    simp only [Act.put, List.setIfInBounds_toArray, List.set_cons_zero, List.set_cons_succ]
    refine wpAny_ready (rs := [4, 5]) (by kernel_rfl) (by simp) ?_
    refine cons_op (by decide) (fun o ho K hK => ?_) ?_
    simp only [List.getElem?_toArray, List.getElem?_cons_succ, List.getElem?_cons_zero, Option.some.injEq] at ho
    subst ho
    go_simp
    refine hK _ _ ?_
    clear hK K
    refine wpAny_ready (rs := [5]) (by kernel_rfl) (by simp) ?_
    refine cons_op (by decide) (fun o ho K hK => ?_) ?_
    simp only [List.getElem?_toArray, List.getElem?_cons_succ, List.getElem?_cons_zero, Option.some.injEq] at ho
    subst ho
    refine step_load_mid (by rfl) 118 (.tmp 3) (by rfl) gx 0 (by rfl) (tL t 0 pin) _ HLD.out Tryz.underlying118 rfl HSZ.out ?_
    refine hK _ _ ?_
    clear hK K
    simp only [Act.put, List.setIfInBounds_toArray, List.set_cons_zero, List.set_cons_succ]
    simp only [tL]
    refine wpAny_ready (rs := [6]) (by kernel_rfl) (by simp) ?_
    refine cons_op (by decide) (fun o ho K hK => ?_) ?_
    simp only [List.getElem?_toArray, List.getElem?_cons_succ, List.getElem?_cons_zero, Option.some.injEq] at ho
    subst ho
    go_simp
    refine hK _ _ ?_
    clear hK K
    refine wpAny_ready (rs := [7]) (by kernel_rfl) (by simp) ?_
    refine cons_op (by decide) (fun o ho K hK => ?_) ?_
    simp only [List.getElem?_toArray, List.getElem?_cons_succ, List.getElem?_cons_zero, Option.some.injEq] at ho
    subst ho
    (refine step_append_any _ (by rfl) (.tmp 31) (.tmp 33) 112 (by rfl) b 118 i0 _ 15 112 Tryz.underlying112 hi0 hz0 hz1 hz2 (by rfl) (by omega) (.slice A n cp) n xs (by rfl) HOI.out _ _ 1 1 (tL t 0 pin) (by rfl) HRR.out HON.out (by simp only [maxLen]; omega) (by omega) HBW.out ?_; intro A7 c7 w7 ho7 hg7 ha7)
    refine hK _ _ ?_
    clear hK K
    simp only [Act.put, List.setIfInBounds_toArray, List.set_cons_zero, List.set_cons_succ]
    have hb7 := HHB.out.grown hg7 HHN.out
    have k7 : w7.cell? ⟨hr, 3, none⟩ = some (.slice A n cp) := hb7.cell 3
    have f7 := hb7.frozen 3
    have HK7 := hide (HKA.out.trans (KeepL.grown HOI.out (by simp) (Nat.le_refl _) hg7))
    have HO7 := hide ho7
    have HB7 := hide hb7
    clear ho7 hg7 ha7 hb7
    refine take_op (i := 8) (d := some 35) (v := ?v1005) rfl (by kernel_rfl) (by kernel_rfl) (by kernel_rfl) (fun _ _ _ h => h) (fun oi ho => ?hy1005) ?rest1005
    case hy1005 => (simp only [List.getElem?_toArray, List.getElem?_cons_succ, List.getElem?_cons_zero, Option.some.injEq] at ho; subst ho; refine Or.inl ⟨by rfl, fun w' => ?_⟩; go_simp; try (with_reducible rfl))
    simp only [Act.put, List.setIfInBounds_toArray, List.set_cons_zero, List.set_cons_succ]
    refine take_op (i := 9) (d := some 36) (v := ?v1006) rfl (by kernel_rfl) (by kernel_rfl) (by kernel_rfl) (fun _ _ _ h => h) (fun oi ho => ?hy1006) ?rest1006
    case hy1006 => (simp only [List.getElem?_toArray, List.getElem?_cons_succ, List.getElem?_cons_zero, Option.some.injEq] at ho; subst ho; refine Or.inl ⟨by rfl, fun w' => ?_⟩; go_simp; try (with_reducible rfl))
    simp only [Act.put, List.setIfInBounds_toArray, List.set_cons_zero, List.set_cons_succ]
    refine wpAny_ready (rs := [10]) (by kernel_rfl) (by simp) ?_
    refine cons_op (by decide) (fun o ho K hK => ?_) ?_
    simp only [List.getElem?_toArray, List.getElem?_cons_succ, List.getElem?_cons_zero, Option.some.injEq] at ho
    subst ho
    go_simp
    refine hK _ _ ?_
    clear hK K
    refine wpAny_done (by kernel_rfl) ?_ _
    rotate_left
    exact AllReady.nil
    exact AllReady.nil
    exact AllReady.nil
    exact AllReady.nil
    refine cons_op (by decide) (fun o ho K hK => ?_) ?_
    simp only [List.getElem?_toArray, List.getElem?_cons_succ, List.getElem?_cons_zero, Option.some.injEq] at ho
    subst ho
    refine step_load_mid (by rfl) 118 (.tmp 3) (by rfl) gx 0 (by rfl) (tL t 0 pin) _ HLD.out Tryz.underlying118 rfl HSZ.out ?_
    refine hK _ _ ?_
    clear hK K
    simp only [Act.put, List.setIfInBounds_toArray, List.set_cons_zero, List.set_cons_succ]
    simp only [tL]
    refine wpAny_ready (rs := [4, 6]) (by kernel_rfl) (by simp) ?_
    refine cons_op (by decide) (fun o ho K hK => ?_) ?_
    simp only [List.getElem?_toArray, List.getElem?_cons_succ, List.getElem?_cons_zero, Option.some.injEq] at ho
    subst ho
    go_simp
    refine hK _ _ ?_
    clear hK K
    refine wpAny_ready (rs := [6]) (by kernel_rfl) (by simp) ?_
    refine cons_op (by decide) (fun o ho K hK => ?_) ?_
    simp only [List.getElem?_toArray, List.getElem?_cons_succ, List.getElem?_cons_zero, Option.some.injEq] at ho
    subst ho
    go_simp
    refine hK _ _ ?_
    clear hK K
    refine wpAny_ready (rs := [7]) (by kernel_rfl) (by simp) ?_
    refine cons_op (by decide) (fun o ho K hK => ?_) ?_
    simp only [List.getElem?_toArray, List.getElem?_cons_succ, List.getElem?_cons_zero, Option.some.injEq] at ho
    subst ho
    (refine step_append_any _ (by rfl) (.tmp 31) (.tmp 33) 112 (by rfl) b 118 i0 _ 15 112 Tryz.underlying112 hi0 hz0 hz1 hz2 (by rfl) (by omega) (.slice A n cp) n xs (by rfl) HOI.out _ _ 1 1 (tL t 0 pin) (by rfl) HRR.out HON.out (by simp only [maxLen]; omega) (by omega) HBW.out ?_; intro A7 c7 w7 ho7 hg7 ha7)
    refine hK _ _ ?_
    clear hK K
    simp only [Act.put, List.setIfInBounds_toArray, List.set_cons_zero, List.set_cons_succ]
    have hb7 := HHB.out.grown hg7 HHN.out
    have k7 : w7.cell? ⟨hr, 3, none⟩ = some (.slice A n cp) := hb7.cell 3
    have f7 := hb7.frozen 3
    have HK7 := hide (HKA.out.trans (KeepL.grown HOI.out (by simp) (Nat.le_refl _) hg7))
    have HO7 := hide ho7
    have HB7 := hide hb7
    clear ho7 hg7 ha7 hb7
    refine take_op (i := 8) (d := some 35) (v := ?v1007) rfl (by kernel_rfl) (by kernel_rfl) (by kernel_rfl) (fun _ _ _ h => h) (fun oi ho => ?hy1007) ?rest1007
    case hy1007 => (simp only [List.getElem?_toArray, List.getElem?_cons_succ, List.getElem?_cons_zero, Option.some.injEq] at ho; subst ho; refine Or.inl ⟨by rfl, fun w' => ?_⟩; go_simp; try (with_reducible rfl))
    simp only [Act.put, List.setIfInBounds_toArray, List.set_cons_zero, List.set_cons_succ]
    refine take_op (i := 9) (d := some 36) (v := ?v1008) rfl (by kernel_rfl) (by kernel_rfl) (by kernel_rfl) (fun _ _ _ h => h) (fun oi ho => ?hy1008) ?rest1008
    case hy1008 => (simp only [List.getElem?_toArray, List.getElem?_cons_succ, List.getElem?_cons_zero, Option.some.injEq] at ho; subst ho; refine Or.inl ⟨by rfl, fun w' => ?_⟩; go_simp; try (with_reducible rfl))
    simp only [Act.put, List.setIfInBounds_toArray, List.set_cons_zero, List.set_cons_succ]
    refine wpAny_ready (rs := [10]) (by kernel_rfl) (by simp) ?_
    refine cons_op (by decide) (fun o ho K hK => ?_) ?_
    simp only [List.getElem?_toArray, List.getElem?_cons_succ, List.getElem?_cons_zero, Option.some.injEq] at ho
    subst ho
    go_simp
    refine hK _ _ ?_
    clear hK K
    refine wpAny_done (by kernel_rfl) ?_ _
    rotate_left
    exact AllReady.nil
    exact AllReady.nil
    exact AllReady.nil
    refine cons_op (by decide) (fun o ho K hK => ?_) ?_
    simp only [List.getElem?_toArray, List.getElem?_cons_succ, List.getElem?_cons_zero, Option.some.injEq] at ho
    subst ho
    go_simp
    refine hK _ _ ?_
    clear hK K
    refine wpAny_ready (rs := [4]) (by kernel_rfl) (by simp) ?_
    refine cons_op (by decide) (fun o ho K hK => ?_) ?_
    simp only [List.getElem?_toArray, List.getElem?_cons_succ, List.getElem?_cons_zero, Option.some.injEq] at ho
    subst ho
    go_simp
    refine hK _ _ ?_
    clear hK K
    refine wpAny_ready (rs := [7]) (by kernel_rfl) (by simp) ?_
    refine cons_op (by decide) (fun o ho K hK => ?_) ?_
    simp only [List.getElem?_toArray, List.getElem?_cons_succ, List.getElem?_cons_zero, Option.some.injEq] at ho
    subst ho
    (refine step_append_any _ (by rfl) (.tmp 31) (.tmp 33) 112 (by rfl) b 118 i0 _ 15 112 Tryz.underlying112 hi0 hz0 hz1 hz2 (by rfl) (by omega) (.slice A n cp) n xs (by rfl) HOI.out _ _ 1 1 (tL t 0 pin) (by rfl) HRR.out HON.out (by simp only [maxLen]; omega) (by omega) HBW.out ?_; intro A7 c7 w7 ho7 hg7 ha7)
    refine hK _ _ ?_
    clear hK K
    simp only [Act.put, List.setIfInBounds_toArray, List.set_cons_zero, List.set_cons_succ]
    have hb7 := HHB.out.grown hg7 HHN.out
    have k7 : w7.cell? ⟨hr, 3, none⟩ = some (.slice A n cp) := hb7.cell 3
    have f7 := hb7.frozen 3
    have HK7 := hide (HKA.out.trans (KeepL.grown HOI.out (by simp) (Nat.le_refl _) hg7))
    have HO7 := hide ho7
    have HB7 := hide hb7
    clear ho7 hg7 ha7 hb7
    refine take_op (i := 8) (d := some 35) (v := ?v1009) rfl (by kernel_rfl) (by kernel_rfl) (by kernel_rfl) (fun _ _ _ h => h) (fun oi ho => ?hy1009) ?rest1009
    case hy1009 => (simp only [List.getElem?_toArray, List.getElem?_cons_succ, List.getElem?_cons_zero, Option.some.injEq] at ho; subst ho; refine Or.inl ⟨by rfl, fun w' => ?_⟩; go_simp; try (with_reducible rfl))
    simp only [Act.put, List.setIfInBounds_toArray, List.set_cons_zero, List.set_cons_succ]
    refine take_op (i := 9) (d := some 36) (v := ?v1010) rfl (by kernel_rfl) (by kernel_rfl) (by kernel_rfl) (fun _ _ _ h => h) (fun oi ho => ?hy1010) ?rest1010
    case hy1010 => (simp only [List.getElem?_toArray, List.getElem?_cons_succ, List.getElem?_cons_zero, Option.some.injEq] at ho; subst ho; refine Or.inl ⟨by rfl, fun w' => ?_⟩; go_simp; try (with_reducible rfl))
    simp only [Act.put, List.setIfInBounds_toArray, List.set_cons_zero, List.set_cons_succ]
    refine wpAny_ready (rs := [10]) (by kernel_rfl) (by simp) ?_
    refine cons_op (by decide) (fun o ho K hK => ?_) ?_
    simp only [List.getElem?_toArray, List.getElem?_cons_succ, List.getElem?_cons_zero, Option.some.injEq] at ho
    subst ho
    go_simp
    refine hK _ _ ?_
    clear hK K
    refine wpAny_done (by kernel_rfl) ?_ _
    rotate_left
    exact AllReady.nil
    exact AllReady.nil
    exact AllReady.nil
    exact AllReady.nil
    exact AllReady.nil
    all_goals
      obtain ⟨g7, rfl, -⟩ := own_addr HO7.out (by omega)
      have hne7 : Value.ownBlock (.slice (Option.some ⟨g7, 0, none⟩) (n + 1) c7) ≠ Option.some hr := own_blk_ne HO7.out HB7.out (by decide)
      have HB8 := hide (HB7.out.set_ 3 (.slice (Option.some ⟨g7, 0, none⟩) (n + 1) c7))
      have HO8 := hide (own_far HO7.out (p := ⟨hr, 3, none⟩) hne7 (.slice (Option.some ⟨g7, 0, none⟩) (n + 1) c7))
      have HK8 := hide (HK7.out.trans (KeepL.set HB7.out (.inl (by simp)) H.out.ge 3 (.slice (Option.some ⟨g7, 0, none⟩) (n + 1) c7)))
      have H8 := hide (show RunM b (w7.setCell ⟨hr, 3, none⟩ (.slice (Option.some ⟨g7, 0, none⟩) (n + 1) c7)) hr g7 (n + 1) c7 tick stamp (xs ++ tL t 0 pin) from ⟨HB8.out, H.out.ge, HO8.out, H.out.kind.snoc _ rfl (tL_kind t 0 pin)⟩)
      clear HB8 HO8 HK7 HO7 HB7 k7 f7
      generalize w7.setCell _ _ = w8 at *
      go_upto_region 6 with fail
      have HD := hide (H8.out.ext ((Ext.refl w8).drew))
      have HWT := hide (rwait_any HD.out n (by omega))
      have c3d : w8.drew.cell? ⟨hr, 3, none⟩ = Option.some (.slice (Option.some ⟨g7, 0, none⟩) (n + 1) c7) := HD.out.box.cell 3
      have b0 : (0 : Int) ≤ (n : Int) := by omega
      have b1 : (n : Int) < (n : Int) + 1 := by omega
      have b2 : IntKind.i64.wrap (n : Int) = (n : Int) := i64_small n (by omega)
      have b3 : IntKind.i64.wrap ((n : Int) + 1 - 1) = (n : Int) := by rw [show (n : Int) + 1 - 1 = (n : Int) by omega]; exact b2
      go_region_held3 (fun w' => w'.cell? ⟨hr, 3, none⟩ = Option.some (.slice (Option.some ⟨g7, 0, none⟩) (n + 1) c7)) (first | exact c3d | exact k9c | fail)
        (first | (go_at_call 50; (with_reducible refine HWT.out.mono ?_); rintro e w9 ⟨rfl, ⟨tk9, st9, ys9, h9⟩, hk9⟩; have k9c : w9.cell? ⟨hr, 3, none⟩ = Option.some (.slice (Option.some ⟨g7, 0, none⟩) (n + 1) c7) := h9.box.cell 3) | fail)
      all_goals
        have HK9 := hide ((HK8.out.trans (KeepL.of ((Ext.refl w8).drew) _ _ _ _)).trans hk9)
        have HFL := hide (fill_any h9 (by omega))
        clear hk9 HWT HD H8 HK8 c3d
        go_wp2_with fail
        refine HFL.out.mono ?_
        rintro e w10 ⟨rfl, hk10⟩
        have HK10 := hide (RunK.trans HK9.out hk10)
        clear hk10 HFL HK9
        go_wp2_with fail
        (first | go_end0 | ((try simp only [Exit.inBlock, Exit.then]); refine bodyPost_ret (results_none rfl _ _ _) rfl ?_))
        exact ⟨rfl, g7, c7, HK10.out⟩
  | true =>
    have k1 : w2.cell? ⟨gx, 1, none⟩ = Option.some (.int .i64 1) := HB2.out.cell 1
    have k9 : w2.cell? ⟨gx, 9, none⟩ = Option.some (.int .i64 0) := HB2.out.cell 9
    have f9 := HB2.out.frozen 9
    have HX3 := hide (HX2.out.setCell (p := ⟨gx, 9, none⟩) hgw (.int .i64 z))
    have HB3 := hide (show Blk (w2.setCell ⟨gx, 9, none⟩ (.int .i64 z)) gx 118 (tL t z pin).toArray from HB2.out.set_ 9 _)
    go_upto_region 5 with fail
    generalize w2.setCell _ _ = W3 at *
    clear k1 k9 f9 HX2 HB2
    have HLD := hide (Blk.all (l := tL t z pin) HB3.out.drew)
    have HSZ := hide (show (Tryz.prog.info? 118).map (·.size) = Option.some (tL t z pin).length from task_size)
    have HON := hide (show ∀ u ∈ tL t z pin, u.oneCell' = true from by simp [tL, Value.oneCell'])
    have HXA := hide (show Ext w (W3.drew.alloc (.cells (tL t z pin).toArray 118)) from HX3.out.drew.alloc _)
    have HOI := hide (H.out.ext HXA.out).row
    have HHB := hide (H.out.ext HXA.out).box
    have HHN := hide (own_blk_ne (H.out.ext HXA.out).row (H.out.ext HXA.out).box (by decide)).symm
    have HRR := hide (Blk.one (Blk.new W3.drew 118 (tL t z pin).toArray) rfl)
    have HBW := hide (Nat.le_trans hbw HXA.out.size)
    have HKA := hide (KeepL.of HXA.out b [114, 118] [] [])
    have c3 : W3.cell? ⟨hr, 3, none⟩ = Option.some (.slice A n cp) := (H.out.ext HX3.out).box.cell 3
    have c3a : (W3.alloc (.cells (tL t z pin).toArray 118)).cell? ⟨hr, 3, none⟩ = Option.some (.slice A n cp) := (H.out.ext (HX3.out.alloc _)).box.cell 3
    simp only [tL] at c3a
    go_upto_region 5 with fail
    refine wp_region_any (by kernel_rfl) ?_
    try (change wpAny _ _ _ _ _ _ _ (World.drew _))
    refine take_op (i := 0) (d := some 27) (v := ?v2001) rfl (by kernel_rfl) (by kernel_rfl) (by kernel_rfl) (fun _ _ _ h => h) (fun oi ho => ?hy2001) ?rest2001
    case hy2001 => (simp only [List.getElem?_toArray, List.getElem?_cons_zero, Option.some.injEq] at ho; subst ho; refine Or.inl ⟨by rfl, fun w' => ?_⟩; go_simp; try (with_reducible rfl))
    simp only [Act.put, List.setIfInBounds_toArray, List.set_cons_zero, List.set_cons_succ]
    refine take_op (i := 1) (d := some 28) (v := ?v2002) rfl (by kernel_rfl) (by kernel_rfl) (by kernel_rfl) (fun _ _ _ h => h) (fun oi ho => ?hy2002) ?rest2002
    case hy2002 => (simp only [List.getElem?_toArray, List.getElem?_cons_succ, List.getElem?_cons_zero, Option.some.injEq] at ho; subst ho; refine Or.inl ⟨by rfl, fun w' => ?_⟩; go_simp; try (with_reducible rfl))
    simp only [Act.put, List.setIfInBounds_toArray, List.set_cons_zero, List.set_cons_succ]
    refine take_op (i := 2) (d := some 29) (v := ?v2003) rfl (by kernel_rfl) (by kernel_rfl) (by kernel_rfl) (fun _ _ _ h => h) (fun oi ho => ?hy2003) ?rest2003
    case hy2003 => (simp only [List.getElem?_toArray, List.getElem?_cons_succ, List.getElem?_cons_zero, Option.some.injEq] at ho; subst ho; refine Or.inl ⟨by rfl, fun w' => ?_⟩; go_simp; try (with_reducible rfl))
    simp only [Act.put, List.setIfInBounds_toArray, List.set_cons_zero, List.set_cons_succ]
    refine take_op (i := 3) (d := some 30) (v := ?v2004) rfl (by kernel_rfl) (by kernel_rfl) (by kernel_rfl) (fun _ _ _ h => h) (fun oi ho => ?hy2004) ?rest2004
    case hy2004 => (simp only [List.getElem?_toArray, List.getElem?_cons_succ, List.getElem?_cons_zero, Option.some.injEq] at ho; subst ho; refine Or.inl ⟨by rfl, fun w' => ?_⟩; go_simp; try (with_reducible rfl))
    simp only [Act.put, List.setIfInBounds_toArray, List.set_cons_zero, List.set_cons_succ]
    refine wpAny_ready (rs := [4, 5]) (by kernel_rfl) (by simp) ?_
    refine cons_op (by decide) (fun o ho K hK => ?_) ?_
    simp only [List.getElem?_toArray, List.getElem?_cons_succ, List.getElem?_cons_zero, Option.some.injEq] at ho
    subst ho
    go_simp
    refine hK _ _ ?_
    clear hK K
    refine wpAny_ready (rs := [5]) (by kernel_rfl) (by simp) ?_
    refine cons_op (by decide) (fun o ho K hK => ?_) ?_
    simp only [List.getElem?_toArray, List.getElem?_cons_succ, List.getElem?_cons_zero, Option.some.injEq] at ho
    subst ho
    refine step_load_mid (by rfl) 118 (.tmp 3) (by rfl) gx 0 (by rfl) (tL t z pin) _ HLD.out Tryz.underlying118 rfl HSZ.out ?_
    refine hK _ _ ?_
    clear hK K
    simp only [Act.put, List.setIfInBounds_toArray, List.set_cons_zero, List.set_cons_succ]
    simp only [tL]
    refine wpAny_ready (rs := [6]) (by kernel_rfl) (by simp) ?_
    refine cons_op (by decide) (fun o ho K hK => ?_) ?_
    simp only [List.getElem?_toArray, List.getElem?_cons_succ, List.getElem?_cons_zero, Option.some.injEq] at ho
    subst ho
    go_simp
    refine hK _ _ ?_
    clear hK K
    refine wpAny_ready (rs := [7]) (by kernel_rfl) (by simp) ?_
    refine cons_op (by decide) (fun o ho K hK => ?_) ?_
    simp only [List.getElem?_toArray, List.getElem?_cons_succ, List.getElem?_cons_zero, Option.some.injEq] at ho
    subst ho
    (refine step_append_any _ (by rfl) (.tmp 31) (.tmp 33) 112 (by rfl) b 118 i0 _ 15 112 Tryz.underlying112 hi0 hz0 hz1 hz2 (by rfl) (by omega) (.slice A n cp) n xs (by rfl) HOI.out _ _ 1 1 (tL t z pin) (by rfl) HRR.out HON.out (by simp only [maxLen]; omega) (by omega) HBW.out ?_; intro A7 c7 w7 ho7 hg7 ha7)
    refine hK _ _ ?_
    clear hK K
    simp only [Act.put, List.setIfInBounds_toArray, List.set_cons_zero, List.set_cons_succ]
    have hb7 := HHB.out.grown hg7 HHN.out
    have k7 : w7.cell? ⟨hr, 3, none⟩ = some (.slice A n cp) := hb7.cell 3
    have f7 := hb7.frozen 3
    have HK7 := hide (HKA.out.trans (KeepL.grown HOI.out (by simp) (Nat.le_refl _) hg7))
    have HO7 := hide ho7
    have HB7 := hide hb7
    clear ho7 hg7 ha7 hb7
    refine take_op (i := 8) (d := some 35) (v := ?v2005) rfl (by kernel_rfl) (by kernel_rfl) (by kernel_rfl) (fun _ _ _ h => h) (fun oi ho => ?hy2005) ?rest2005
    case hy2005 => (simp only [List.getElem?_toArray, List.getElem?_cons_succ, List.getElem?_cons_zero, Option.some.injEq] at ho; subst ho; refine Or.inl ⟨by rfl, fun w' => ?_⟩; go_simp; try (with_reducible rfl))
    simp only [Act.put, List.setIfInBounds_toArray, List.set_cons_zero, List.set_cons_succ]
    refine take_op (i := 9) (d := some 36) (v := ?v2006) rfl (by kernel_rfl) (by kernel_rfl) (by kernel_rfl) (fun _ _ _ h => h) (fun oi ho => ?hy2006) ?rest2006
    case hy2006 => (simp only [List.getElem?_toArray, List.getElem?_cons_succ, List.getElem?_cons_zero, Option.some.injEq] at ho; subst ho; refine Or.inl ⟨by rfl, fun w' => ?_⟩; go_simp; try (with_reducible rfl))
    simp only [Act.put, List.setIfInBounds_toArray, List.set_cons_zero, List.set_cons_succ]
    refine wpAny_ready (rs := [10]) (by kernel_rfl) (by simp) ?_
    refine cons_op (by decide) (fun o ho K hK => ?_) ?_
    simp only [List.getElem?_toArray, List.getElem?_cons_succ, List.getElem?_cons_zero, Option.some.injEq] at ho
    subst ho
    go_simp
    refine hK _ _ ?_
    clear hK K
    refine wpAny_done (by kernel_rfl) ?_ _
    rotate_left
    exact AllReady.nil
    exact AllReady.nil
    exact AllReady.nil
    exact AllReady.nil
    refine cons_op (by decide) (fun o ho K hK => ?_) ?_
    simp only [List.getElem?_toArray, List.getElem?_cons_succ, List.getElem?_cons_zero, Option.some.injEq] at ho
    subst ho
    refine step_load_mid (by rfl) 118 (.tmp 3) (by rfl) gx 0 (by rfl) (tL t z pin) _ HLD.out Tryz.underlying118 rfl HSZ.out ?_
    refine hK _ _ ?_
    clear hK K
    simp only [Act.put, List.setIfInBounds_toArray, List.set_cons_zero, List.set_cons_succ]
    simp only [tL]
    refine wpAny_ready (rs := [4, 6]) (by kernel_rfl) (by simp) ?_
    refine cons_op (by decide) (fun o ho K hK => ?_) ?_
    simp only [List.getElem?_toArray, List.getElem?_cons_succ, List.getElem?_cons_zero, Option.some.injEq] at ho
    subst ho
    go_simp
    refine hK _ _ ?_
    clear hK K
    refine wpAny_ready (rs := [6]) (by kernel_rfl) (by simp) ?_
    refine cons_op (by decide) (fun o ho K hK => ?_) ?_
    simp only [List.getElem?_toArray, List.getElem?_cons_succ, List.getElem?_cons_zero, Option.some.injEq] at ho
    subst ho
    go_simp
    refine hK _ _ ?_
    clear hK K
    refine wpAny_ready (rs := [7]) (by kernel_rfl) (by simp) ?_
    refine cons_op (by decide) (fun o ho K hK => ?_) ?_
    simp only [List.getElem?_toArray, List.getElem?_cons_succ, List.getElem?_cons_zero, Option.some.injEq] at ho
    subst ho
    (refine step_append_any _ (by rfl) (.tmp 31) (.tmp 33) 112 (by rfl) b 118 i0 _ 15 112 Tryz.underlying112 hi0 hz0 hz1 hz2 (by rfl) (by omega) (.slice A n cp) n xs (by rfl) HOI.out _ _ 1 1 (tL t z pin) (by rfl) HRR.out HON.out (by simp only [maxLen]; omega) (by omega) HBW.out ?_; intro A7 c7 w7 ho7 hg7 ha7)
    refine hK _ _ ?_
    clear hK K
    simp only [Act.put, List.setIfInBounds_toArray, List.set_cons_zero, List.set_cons_succ]
    have hb7 := HHB.out.grown hg7 HHN.out
    have k7 : w7.cell? ⟨hr, 3, none⟩ = some (.slice A n cp) := hb7.cell 3
    have f7 := hb7.frozen 3
    have HK7 := hide (HKA.out.trans (KeepL.grown HOI.out (by simp) (Nat.le_refl _) hg7))
    have HO7 := hide ho7
    have HB7 := hide hb7
    clear ho7 hg7 ha7 hb7
    refine take_op (i := 8) (d := some 35) (v := ?v2007) rfl (by kernel_rfl) (by kernel_rfl) (by kernel_rfl) (fun _ _ _ h => h) (fun oi ho => ?hy2007) ?rest2007
    case hy2007 => (simp only [List.getElem?_toArray, List.getElem?_cons_succ, List.getElem?_cons_zero, Option.some.injEq] at ho; subst ho; refine Or.inl ⟨by rfl, fun w' => ?_⟩; go_simp; try (with_reducible rfl))
    simp only [Act.put, List.setIfInBounds_toArray, List.set_cons_zero, List.set_cons_succ]
    refine take_op (i := 9) (d := some 36) (v := ?v2008) rfl (by kernel_rfl) (by kernel_rfl) (by kernel_rfl) (fun _ _ _ h => h) (fun oi ho => ?hy2008) ?rest2008
    case hy2008 => (simp only [List.getElem?_toArray, List.getElem?_cons_succ, List.getElem?_cons_zero, Option.some.injEq] at ho; subst ho; refine Or.inl ⟨by rfl, fun w' => ?_⟩; go_simp; try (with_reducible rfl))
    simp only [Act.put, List.setIfInBounds_toArray, List.set_cons_zero, List.set_cons_succ]
    refine wpAny_ready (rs := [10]) (by kernel_rfl) (by simp) ?_
    refine cons_op (by decide) (fun o ho K hK => ?_) ?_
    simp only [List.getElem?_toArray, List.getElem?_cons_succ, List.getElem?_cons_zero, Option.some.injEq] at ho
    subst ho
    go_simp
    refine hK _ _ ?_
    clear hK K
    refine wpAny_done (by kernel_rfl) ?_ _
    rotate_left
    exact AllReady.nil
    exact AllReady.nil
    exact AllReady.nil
    refine cons_op (by decide) (fun o ho K hK => ?_) ?_
    simp only [List.getElem?_toArray, List.getElem?_cons_succ, List.getElem?_cons_zero, Option.some.injEq] at ho
    subst ho
    go_simp
    refine hK _ _ ?_
    clear hK K
    refine wpAny_ready (rs := [4]) (by kernel_rfl) (by simp) ?_
    refine cons_op (by decide) (fun o ho K hK => ?_) ?_
    simp only [List.getElem?_toArray, List.getElem?_cons_succ, List.getElem?_cons_zero, Option.some.injEq] at ho
    subst ho
    go_simp
    refine hK _ _ ?_
    clear hK K
    refine wpAny_ready (rs := [7]) (by kernel_rfl) (by simp) ?_
    refine cons_op (by decide) (fun o ho K hK => ?_) ?_
    simp only [List.getElem?_toArray, List.getElem?_cons_succ, List.getElem?_cons_zero, Option.some.injEq] at ho
    subst ho
    (refine step_append_any _ (by rfl) (.tmp 31) (.tmp 33) 112 (by rfl) b 118 i0 _ 15 112 Tryz.underlying112 hi0 hz0 hz1 hz2 (by rfl) (by omega) (.slice A n cp) n xs (by rfl) HOI.out _ _ 1 1 (tL t z pin) (by rfl) HRR.out HON.out (by simp only [maxLen]; omega) (by omega) HBW.out ?_; intro A7 c7 w7 ho7 hg7 ha7)
    refine hK _ _ ?_
    clear hK K
    simp only [Act.put, List.setIfInBounds_toArray, List.set_cons_zero, List.set_cons_succ]
    have hb7 := HHB.out.grown hg7 HHN.out
    have k7 : w7.cell? ⟨hr, 3, none⟩ = some (.slice A n cp) := hb7.cell 3
    have f7 := hb7.frozen 3
    have HK7 := hide (HKA.out.trans (KeepL.grown HOI.out (by simp) (Nat.le_refl _) hg7))
    have HO7 := hide ho7
    have HB7 := hide hb7
    clear ho7 hg7 ha7 hb7
    refine take_op (i := 8) (d := some 35) (v := ?v2009) rfl (by kernel_rfl) (by kernel_rfl) (by kernel_rfl) (fun _ _ _ h => h) (fun oi ho => ?hy2009) ?rest2009
    case hy2009 => (simp only [List.getElem?_toArray, List.getElem?_cons_succ, List.getElem?_cons_zero, Option.some.injEq] at ho; subst ho; refine Or.inl ⟨by rfl, fun w' => ?_⟩; go_simp; try (with_reducible rfl))
    simp only [Act.put, List.setIfInBounds_toArray, List.set_cons_zero, List.set_cons_succ]
    refine take_op (i := 9) (d := some 36) (v := ?v2010) rfl (by kernel_rfl) (by kernel_rfl) (by kernel_rfl) (fun _ _ _ h => h) (fun oi ho => ?hy2010) ?rest2010
    case hy2010 => (simp only [List.getElem?_toArray, List.getElem?_cons_succ, List.getElem?_cons_zero, Option.some.injEq] at ho; subst ho; refine Or.inl ⟨by rfl, fun w' => ?_⟩; go_simp; try (with_reducible rfl))
    simp only [Act.put, List.setIfInBounds_toArray, List.set_cons_zero, List.set_cons_succ]
    refine wpAny_ready (rs := [10]) (by kernel_rfl) (by simp) ?_
    refine cons_op (by decide) (fun o ho K hK => ?_) ?_
    simp only [List.getElem?_toArray, List.getElem?_cons_succ, List.getElem?_cons_zero, Option.some.injEq] at ho
    subst ho
    go_simp
    refine hK _ _ ?_
    clear hK K
    refine wpAny_done (by kernel_rfl) ?_ _
    rotate_left
    exact AllReady.nil
    exact AllReady.nil
    exact AllReady.nil
    exact AllReady.nil
    exact AllReady.nil
    all_goals
      obtain ⟨g7, rfl, -⟩ := own_addr HO7.out (by omega)
      have hne7 : Value.ownBlock (.slice (Option.some ⟨g7, 0, none⟩) (n + 1) c7) ≠ Option.some hr := own_blk_ne HO7.out HB7.out (by decide)
      have HB8 := hide (HB7.out.set_ 3 (.slice (Option.some ⟨g7, 0, none⟩) (n + 1) c7))
      have HO8 := hide (own_far HO7.out (p := ⟨hr, 3, none⟩) hne7 (.slice (Option.some ⟨g7, 0, none⟩) (n + 1) c7))
      have HK8 := hide (HK7.out.trans (KeepL.set HB7.out (.inl (by simp)) H.out.ge 3 (.slice (Option.some ⟨g7, 0, none⟩) (n + 1) c7)))
      have H8 := hide (show RunM b (w7.setCell ⟨hr, 3, none⟩ (.slice (Option.some ⟨g7, 0, none⟩) (n + 1) c7)) hr g7 (n + 1) c7 tick stamp (xs ++ tL t z pin) from ⟨HB8.out, H.out.ge, HO8.out, H.out.kind.snoc _ rfl (tL_kind t z pin)⟩)
      clear HB8 HO8 HK7 HO7 HB7 k7 f7
      generalize w7.setCell _ _ = w8 at *
      go_upto_region 6 with fail
      have HD := hide (H8.out.ext ((Ext.refl w8).drew))
      have HWT := hide (rwait_any HD.out n (by omega))
      have c3d : w8.drew.cell? ⟨hr, 3, none⟩ = Option.some (.slice (Option.some ⟨g7, 0, none⟩) (n + 1) c7) := HD.out.box.cell 3
      have b0 : (0 : Int) ≤ (n : Int) := by omega
      have b1 : (n : Int) < (n : Int) + 1 := by omega
      have b2 : IntKind.i64.wrap (n : Int) = (n : Int) := i64_small n (by omega)
      have b3 : IntKind.i64.wrap ((n : Int) + 1 - 1) = (n : Int) := by rw [show (n : Int) + 1 - 1 = (n : Int) by omega]; exact b2
      go_region_held3 (fun w' => w'.cell? ⟨hr, 3, none⟩ = Option.some (.slice (Option.some ⟨g7, 0, none⟩) (n + 1) c7)) (first | exact c3d | exact k9c | fail)
        (first | (go_at_call 50; (with_reducible refine HWT.out.mono ?_); rintro e w9 ⟨rfl, ⟨tk9, st9, ys9, h9⟩, hk9⟩; have k9c : w9.cell? ⟨hr, 3, none⟩ = Option.some (.slice (Option.some ⟨g7, 0, none⟩) (n + 1) c7) := h9.box.cell 3) | fail)
      all_goals
        have HK9 := hide ((HK8.out.trans (KeepL.of ((Ext.refl w8).drew) _ _ _ _)).trans hk9)
        have HFL := hide (fill_any h9 (by omega))
        clear hk9 HWT HD H8 HK8 c3d
        go_wp2_with fail
        refine HFL.out.mono ?_
        rintro e w10 ⟨rfl, hk10⟩
        have HK10 := hide (RunK.trans HK9.out hk10)
        clear hk10 HFL HK9
        go_wp2_with fail
        (first | go_end0 | ((try simp only [Exit.inBlock, Exit.then]); refine bodyPost_ret (results_none rfl _ _ _) rfl ?_))
        exact ⟨rfl, g7, c7, HK10.out⟩
/-- The run has n tasks. -/
def RunN (b : Nat) (w : World) (hr n : Nat) : Prop := ∃ A cp tick stamp xs, RunA b w hr A n cp tick stamp xs
set_option maxHeartbeats 8000000 in
set_option maxRecDepth 100000 in
theorem radd_any {b : Nat} {w : World} {hr n : Nat} (h : RunN b w hr n) (hn : n ≤ 90) (hbw : b ≤ w.heap.size) (t : Nat) (h1 : 1 ≤ t) (h2 : t ≤ 16) :
    Calls Tryz.prog 35 #[.pointer (some ⟨hr, 0, none⟩), .int .i64 (t : Int), .int .i64 1, .int .i64 10] w fun e w' => RetI e ∧ (∃ m, 0 < m ∧ m ≤ n + 1 ∧ RunN b w' hr m) ∧ KeepL b [114, 118] [] [] w w' := by
  obtain ⟨A, cp, tick, stamp, xs, h⟩ := h
  have HF := hide (findA_any h (by omega) (t : Int))
  have HV := hide value_ok
  have HE := hide (enter_any h hn hbw (t : Int))
  have H := hide h
  have g1 : decide ((t : Int) < 1) = false := decide_eq_false (by omega)
  have g2 : decide ((16 : Int) < (t : Int)) = false := decide_eq_false (by omega)
  clear h
  go_enter Tryz.func35, Tryz.ntmps35
  go_wp2_with fail
  refine (HV.out w).mono ?_
  rintro e w1 ⟨rfl, rfl⟩
  go_wp2_with fail
  refine HF.out.mono ?_
  rintro e w1 ⟨⟨v, rfl, hv⟩, rfl⟩
  rcases hv with rfl | ⟨h0, a, rfl⟩
  · go_wp2_with fail
    refine HE.out.mono ?_
    rintro e w1 ⟨rfl, g, cp', ⟨tk, st, ys, hm⟩, hk⟩
    have HM := hide hm.any
    have HK := hide hk
    clear hm hk HE HF
    go_wp2_with fail
    go_ret
    exact ⟨⟨_, rfl⟩, ⟨n + 1, by omega, Nat.le_refl _, _, _, _, _, _, HM.out⟩, HK.out⟩
  · go_wp2_with fail
    go_ret
    exact ⟨⟨_, rfl⟩, ⟨n, h0, by omega, _, _, _, _, _, H.out⟩, KeepL.refl _ _ _ _ _⟩
theorem runnew_ok (w : World) : Calls Tryz.prog 32 #[.int .i64 1] w fun e w' => ∃ hr, e = .returned (.tuple #[.pointer (some ⟨hr, 0, none⟩), .int .i64 0]) ∧ w.heap.size ≤ hr ∧ (∀ b, b ≤ hr → RunN b w' hr 0) ∧ Ext w w' := by
  go_enter Tryz.func32, Tryz.ntmps32
  go_wp2_with fail
  go_ret2
  exact ⟨w.heap.size, rfl, Nat.le_refl _, fun b hb => ⟨none, 0, 0, 0, [], Blk.new _ _ _, hb, World.ownsRow_nil _ _ _ _, rfl, fun i f hi => absurd hi (by omega)⟩, (Ext.refl w).alloc _⟩
end Go.Proofs.YthmojneobkaolaaGreatDoor
