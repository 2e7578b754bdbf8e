/- Taking, sending, handling signals; a child's set. -/
import Derived.Test.YthmojneobkaolaaGreatDoorTpSig
import Derived.Test.YthmojneobkaolaaGreatDoorSetC
import Derived.Test.YthmojneobkaolaaGreatDoorDraw
import Derived.Deep.RegionLaw
import Derived.Deep.RegionHeld
namespace Go.Proofs.YthmojneobkaolaaGreatDoor
open Go.RowKit
set_option linter.unusedVariables false

def zeroL : List Value := [iv 0, iv 0, iv 0, iv 0, iv 0, iv 0, iv 0, iv 0, iv 0, iv 0, iv 0, iv 0, iv 0, iv 0, iv 0, iv 0, iv 0, iv 0]
theorem sigL_len (p x : Int) : (sigL p x).length = 18 := rfl
theorem sigA_size (p x : Int) : (sigA p x).size = 18 := rfl
theorem sigA_one (p x : Int) : (sigA p x).all (·.oneCell') = true := by simp [sigA, sigL, howA, Value.oneCell']
theorem sigA_set (p x q : Int) : (sigA p x).setIfInBounds 0 (.int .i64 q) = sigA q x := rfl
theorem sigA_how (p x y : Int) : (sigA p x).setIfInBounds 5 (.int .i64 y) = sigA p y := rfl
/-- What a call hands back whose first result lies in a block. -/
theorem sig_load {W : World} {g : Nat} {p x : Int} (h : Blk W g 56 (sigA p x)) : (loadVar 56 ⟨g, 0, none⟩).run Tryz.prog W = .ok (.agg (sigA p x)) W :=
  run_loadVar_mid W g 0 56 (sigL p x) _ (sig_range h) Tryz.underlying56 rfl (sig_size p x)
theorem take_ret {R : Ending → World → Prop} {a : Act} {W : World} {g : Nat} {p x : Int} {v3 v4 v5 : Value} (hd : a.defers = []) (h2 : a.tmps.getD 2 undef = .pointer (some ⟨g, 0, none⟩)) (h3 : a.tmps.getD 3 undef = v3) (h4 : a.tmps.getD 4 undef = v4) (h5 : a.tmps.getD 5 undef = v5) (hb : Blk W g 56 (sigA p x)) (hR : R (.returned (.tuple #[.agg (sigA p x), v3, v4, v5])) W) : bodyPost Tryz.prog Tryz.f37 R .ret a W := by
  have hl := sig_load hb
  have h2' : a.tmps[2]?.getD undef = .pointer (some ⟨g, 0, none⟩) := by simpa using h2
  have h3' : a.tmps[3]?.getD undef = v3 := by simpa using h3
  have h4' : a.tmps[4]?.getD undef = v4 := by simpa using h4
  have h5' : a.tmps[5]?.getD undef = v5 := by simpa using h5
  exact bodyPost_ret (v := .tuple #[.agg (sigA p x), v3, v4, v5]) (by simp [results, Tryz.results37, asAddr, h2', h3', h4', h5', hl]) hd hR
theorem two_boxes (w : World) (p x : Int) : Blk ((w.alloc (.cells (sigA p x) 56)).alloc (.cells #[.int .i64 0, .int .i64 0, .int .i64 0, .int .i64 0, .int .i64 0, .int .i64 0, .int .i64 0, .int .i64 0, .int .i64 0, .int .i64 0, .int .i64 0, .int .i64 0, .int .i64 0, .int .i64 0, .int .i64 0, .int .i64 0, .int .i64 0, .int .i64 0] 56)) w.heap.size 56 (sigA p x) ∧ Blk ((w.alloc (.cells (sigA p x) 56)).alloc (.cells #[.int .i64 0, .int .i64 0, .int .i64 0, .int .i64 0, .int .i64 0, .int .i64 0, .int .i64 0, .int .i64 0, .int .i64 0, .int .i64 0, .int .i64 0, .int .i64 0, .int .i64 0, .int .i64 0, .int .i64 0, .int .i64 0, .int .i64 0, .int .i64 0] 56)) (w.heap.size + 1) 56 (sigA 0 0) ∧ Ext w ((w.alloc (.cells (sigA p x) 56)).alloc (.cells #[.int .i64 0, .int .i64 0, .int .i64 0, .int .i64 0, .int .i64 0, .int .i64 0, .int .i64 0, .int .i64 0, .int .i64 0, .int .i64 0, .int .i64 0, .int .i64 0, .int .i64 0, .int .i64 0, .int .i64 0, .int .i64 0, .int .i64 0, .int .i64 0] 56)) := by
  refine ⟨(Blk.new w 56 (sigA p x)).alloc _, ?_, ((Ext.refl w).alloc _).alloc _⟩
  have h := Blk.new (w.alloc (.cells (sigA p x) 56)) 56 (sigA 0 0)
  rwa [show (w.alloc (.cells (sigA p x) 56)).heap.size = w.heap.size + 1 by simp] at h
set_option maxHeartbeats 8000000 in
set_option maxRecDepth 100000 in
theorem sigtake_none (x : Int) (hx : 0 ≤ x) (w : World) :
    Calls Tryz.prog 37 #[.agg (sigA 0 x)] w fun e w' => e = .returned (.tuple #[.agg (sigA 0 0), .int .i64 0, .int .i64 0, .int .i64 4]) ∧ Ext w w' := by
  have HC := hide (signext_none x hx)
  obtain ⟨hb, hr, hx0⟩ := two_boxes w 0 x
  have HB := hide hb
  have HR := hide hr
  have HX := hide hx0
  clear hb hr hx0
  go_enter Tryz.func37, Tryz.ntmps37
  go_upto_region 1 with fail
  obtain ⟨g, hg⟩ : ∃ g, w.heap.size = g := ⟨_, rfl⟩
  have hgw : w.heap.size ≤ g + 1 := by omega
  rw [hg] at HB HR ⊢
  clear hg
  generalize (w.alloc _).alloc _ = W at *
  have HLD := hide (sig_range HB.out)
  have HSZ := hide (sig_size 0 x)
  go_wp2_with ((with_reducible refine wpList_load_mid rfl 56 (.tmp 1) rfl g 0 rfl (sigL 0 x) _ HLD.out Tryz.underlying56 rfl HSZ.out ?_))
  refine (HC.out W).mono ?_
  rintro e w1 ⟨rfl, hx1⟩
  have HX1 := hide (HX.out.trans hx1)
  have HR1 := hide (HR.out.ext hx1)
  have HTH := hide (HR1.out.there_ 0 (sigA 0 0).size (by rw [Nat.zero_add]; exact Nat.le_refl _))
  clear hx1 HX HB HC HLD HR
  go_wp2_with ((with_reducible refine wpList_store_mid rfl 56 (.tmp 2) (.tmp 15) rfl (g + 1) 0 (sigA 0 0) rfl ?_ HTH.out ?_ (sigA_one 0 0) ?_); (exact rfl); (exact sig_size 0 0))
  exact take_ret rfl rfl rfl rfl rfl (HR1.out.setAll (sigA 0 0).toList rfl) ⟨rfl, HX1.out.setCells hgw 0 _⟩
set_option maxHeartbeats 8000000 in
set_option maxRecDepth 100000 in
theorem sigtake_some (x : Int) (hx : 0 ≤ x) (w : World) :
    Calls Tryz.prog 37 #[.agg (sigA 8 x)] w fun e w' => e = .returned (.tuple #[.agg (sigA 0 x), .int .i64 3, .int .i64 x, .int .i64 0]) ∧ Ext w w' := by
  have HC := hide (signext_some x hx)
  obtain ⟨hb, hr, hx0⟩ := two_boxes w 8 x
  have HB := hide hb
  have HR := hide hr
  have HX := hide hx0
  clear hb hr hx0
  go_enter Tryz.func37, Tryz.ntmps37
  go_upto_region 1 with fail
  obtain ⟨g, hg⟩ : ∃ g, w.heap.size = g := ⟨_, rfl⟩
  have hgw : w.heap.size ≤ g + 1 := by omega
  have hgw2 : w.heap.size ≤ g := by omega
  rw [hg] at HB HR ⊢
  clear hg
  generalize (w.alloc _).alloc _ = W at *
  have HLD := hide (sig_range HB.out)
  have HSZ := hide (sig_size 8 x)
  go_wp2_with ((with_reducible refine wpList_load_mid rfl 56 (.tmp 1) rfl g 0 rfl (sigL 8 x) _ HLD.out Tryz.underlying56 rfl HSZ.out ?_))
  refine (HC.out W).mono ?_
  rintro e w1 ⟨rfl, hx1⟩
  have HX1 := hide (HX.out.trans hx1)
  have HR1 := hide (HR.out.ext hx1)
  have HB1 := hide (HB.out.ext hx1)
  clear hx1 HX HB HC HLD HR
  have k0 : w1.cell? ⟨g, 0, none⟩ = some (.int .i64 8) := HB1.out.cell 0
  have f0 := HB1.out.frozen 0
  have m1 : bits BinOp.andNot IntKind.i64 8 (IntKind.i64.wrap 8) = 0 := by kernel_rfl
  go_upto_region 4 with fail
  go_region_law (fail)
  all_goals
    have HB2 := hide (show Blk (w1.setCell ⟨g, 0, none⟩ (.int .i64 0)).drew g 56 (sigA 0 x) from by have := HB1.out.set_ 0 (.int .i64 0); rw [sigA_set] at this; exact this.drew)
    have HR2 := hide ((HR1.out.far (p := ⟨g, 0, none⟩) (by dsimp only; omega) (.int .i64 0)).drew)
    have HX2 := hide ((HX1.out.setCell (p := ⟨g, 0, none⟩) hgw2 (.int .i64 0)).drew)
    clear HX1 HB1 HR1 k0 f0 m1
    generalize (w1.setCell _ _).drew = w2 at *
    have HLD := hide (sig_range HB2.out.drew)
    have HSZ := hide (sig_size 0 x)
    have HTH := hide (HR2.out.drew.there_ 0 (sigA 0 x).size (by rw [Nat.zero_add]; exact Nat.le_refl _))
    have k5 : w2.cell? ⟨g, 5, none⟩ = some (.int .i64 x) := HB2.out.cell 5
    go_upto_region 5 with fail
    refine wp_region_any (by kernel_rfl) ?_
    try (change wpAny _ _ _ _ _ _ _ (World.drew _))
    refine take_op (i := 1) (d := some 24) (v := ?v1) rfl (by kernel_rfl) (by kernel_rfl) (by kernel_rfl) (fun _ _ _ h => h) (fun oi ho => ?hy1) ?rest1
    case hy1 => (simp only [List.getElem?_toArray, List.getElem?_cons_succ, List.getElem?_cons_zero, Option.some.injEq] at ho; subst ho; refine Or.inl ⟨by rfl, fun w' => ?_⟩; go_simp; try (with_reducible rfl))
    simp only [Act.put, List.setIfInBounds_toArray, List.set_cons_zero, List.set_cons_succ]
    refine take_op (i := 2) (d := some 25) (v := ?v2) rfl (by kernel_rfl) (by kernel_rfl) (by kernel_rfl) (fun _ _ _ h => h) (fun oi ho => ?hy2) ?rest2
    case hy2 => (simp only [List.getElem?_toArray, List.getElem?_cons_succ, List.getElem?_cons_zero, Option.some.injEq] at ho; subst ho; refine Or.inl ⟨by rfl, fun w' => ?_⟩; go_simp; try (with_reducible rfl))
    simp only [Act.put, List.setIfInBounds_toArray, List.set_cons_zero, List.set_cons_succ]
    refine take_op (i := 3) (d := some 26) (v := ?v3) rfl (by kernel_rfl) (by kernel_rfl) (by kernel_rfl) (fun _ _ _ h => h) (fun oi ho => ?hy3) ?rest3
    case hy3 => (simp only [List.getElem?_toArray, List.getElem?_cons_succ, List.getElem?_cons_zero, Option.some.injEq] at ho; subst ho; refine Or.inl ⟨by rfl, fun w' => ?_⟩; go_simp; try (with_reducible rfl))
    simp only [Act.put, List.setIfInBounds_toArray, List.set_cons_zero, List.set_cons_succ]
    refine take_op (i := 4) (d := some 27) (v := ?v4) rfl (by kernel_rfl) (by kernel_rfl) (by kernel_rfl) (fun _ _ _ h => h) (fun oi ho => ?hy4) ?rest4
    case hy4 => (simp only [List.getElem?_toArray, List.getElem?_cons_succ, List.getElem?_cons_zero, Option.some.injEq] at ho; subst ho; refine Or.inl ⟨by rfl, fun w' => ?_⟩; go_simp; try (with_reducible rfl))
    simp only [Act.put, List.setIfInBounds_toArray, List.set_cons_zero, List.set_cons_succ]
    refine wpAny_ready (rs := [0, 5]) (by kernel_rfl) (by simp) ?_
    refine cons_op (by decide) (fun o ho K hK => ?_) ?_
    simp only [List.getElem?_toArray, List.getElem?_cons_zero, Option.some.injEq] at ho
    subst ho
    refine step_load_mid (by rfl) 56 (.tmp 1) (by rfl) g 0 (by rfl) (sigL 0 x) _ HLD.out Tryz.underlying56 rfl HSZ.out ?_
    refine hK _ _ ?_
    clear hK K
    simp only [Act.put, List.setIfInBounds_toArray, List.set_cons_zero, List.set_cons_succ]
    refine wpAny_ready (rs := [5, 6]) (by kernel_rfl) (by simp) ?_
    refine cons_op (by decide) (fun o ho K hK => ?_) ?_
    simp only [List.getElem?_toArray, List.getElem?_cons_succ, List.getElem?_cons_zero, Option.some.injEq] at ho
    subst ho
    go_simp
    refine hK _ _ ?_
    clear hK K
    refine wpAny_ready (rs := [6]) (by kernel_rfl) (by simp) ?_
    refine cons_op (by decide) (fun o ho K hK => ?_) ?_
    simp only [List.getElem?_toArray, List.getElem?_cons_succ, List.getElem?_cons_zero, Option.some.injEq] at ho
    subst ho
    refine step_store_mid (by rfl) 56 (.tmp 2) (.tmp 23) (by rfl) (g + 1) 0 (sigA 0 x) (by rfl) (by rfl) HTH.out (sig_size 0 x) (sigA_one 0 x) ?_
    refine hK _ _ ?_
    clear hK K
    simp only [Act.put]
    have k6 : (w2.drew.setCells (g + 1) 0 (sigA 0 x).toList).cell? ⟨g, 5, none⟩ = some (.int .i64 x) := (HB2.out.drew.farC (by omega) 0 (sigA 0 x).toList).cell 5
    have HR3 := hide (HR2.out.drew.setAll (sigA 0 x).toList rfl)
    have HX3 := hide (HX2.out.drew.setCells (g := g + 1) hgw 0 (sigA 0 x).toList)
    generalize w2.drew.setCells _ _ _ = w3 at *
    refine take_op (i := 7) (d := some 3) (v := ?v5) rfl (by kernel_rfl) (by kernel_rfl) (by kernel_rfl) (fun _ _ _ h => h) (fun oi ho => ?hy5) ?rest5
    case hy5 => (simp only [List.getElem?_toArray, List.getElem?_cons_succ, List.getElem?_cons_zero, Option.some.injEq] at ho; subst ho; refine Or.inl ⟨by rfl, fun w' => ?_⟩; go_simp; try (with_reducible rfl))
    simp only [Act.put, List.setIfInBounds_toArray, List.set_cons_zero, List.set_cons_succ]
    refine take_op (i := 8) (d := some 4) (v := ?v6) rfl (by kernel_rfl) (by kernel_rfl) (by kernel_rfl) (fun _ _ _ h => h) (fun oi ho => ?hy6) ?rest6
    case hy6 => (simp only [List.getElem?_toArray, List.getElem?_cons_succ, List.getElem?_cons_zero, Option.some.injEq] at ho; subst ho; refine Or.inl ⟨by rfl, fun w' => ?_⟩; go_simp; try (with_reducible rfl))
    simp only [Act.put, List.setIfInBounds_toArray, List.set_cons_zero, List.set_cons_succ]
    refine take_op (i := 9) (d := some 5) (v := ?v7) rfl (by kernel_rfl) (by kernel_rfl) (by kernel_rfl) (fun _ _ _ h => h) (fun oi ho => ?hy7) ?rest7
    case hy7 => (simp only [List.getElem?_toArray, List.getElem?_cons_succ, List.getElem?_cons_zero, Option.some.injEq] at ho; subst ho; refine Or.inl ⟨by rfl, fun w' => ?_⟩; go_simp; try (with_reducible rfl))
    simp only [Act.put, List.setIfInBounds_toArray, List.set_cons_zero, List.set_cons_succ]
    refine wpAny_done (by kernel_rfl) ?_ _
    rotate_left
    exact AllReady.nil
    refine cons_op (by decide) (fun o ho K hK => ?_) ?_
    simp only [List.getElem?_toArray, List.getElem?_cons_succ, List.getElem?_cons_zero, Option.some.injEq] at ho
    subst ho
    refine step_store_mid (by rfl) 56 (.tmp 2) (.tmp 23) (by rfl) (g + 1) 0 (sigA 0 x) (by rfl) (by rfl) HTH.out (sig_size 0 x) (sigA_one 0 x) ?_
    refine hK _ _ ?_
    clear hK K
    simp only [Act.put]
    have k6 : (w2.drew.setCells (g + 1) 0 (sigA 0 x).toList).cell? ⟨g, 5, none⟩ = some (.int .i64 x) := (HB2.out.drew.farC (by omega) 0 (sigA 0 x).toList).cell 5
    have HR3 := hide (HR2.out.drew.setAll (sigA 0 x).toList rfl)
    have HX3 := hide (HX2.out.drew.setCells (g := g + 1) hgw 0 (sigA 0 x).toList)
    generalize w2.drew.setCells _ _ _ = w3 at *
    refine take_op (i := 7) (d := some 3) (v := ?v8) rfl (by kernel_rfl) (by kernel_rfl) (by kernel_rfl) (fun _ _ _ h => h) (fun oi ho => ?hy8) ?rest8
    case hy8 => (simp only [List.getElem?_toArray, List.getElem?_cons_succ, List.getElem?_cons_zero, Option.some.injEq] at ho; subst ho; refine Or.inl ⟨by rfl, fun w' => ?_⟩; go_simp; try (with_reducible rfl))
    simp only [Act.put, List.setIfInBounds_toArray, List.set_cons_zero, List.set_cons_succ]
    refine wpAny_ready (rs := [5]) (by kernel_rfl) (by simp) ?_
    refine cons_op (by decide) (fun o ho K hK => ?_) ?_
    simp only [List.getElem?_toArray, List.getElem?_cons_succ, List.getElem?_cons_zero, Option.some.injEq] at ho
    subst ho
    go_simp
    refine hK _ _ ?_
    clear hK K
    refine take_op (i := 8) (d := some 4) (v := ?v9) rfl (by kernel_rfl) (by kernel_rfl) (by kernel_rfl) (fun _ _ _ h => h) (fun oi ho => ?hy9) ?rest9
    case hy9 => (simp only [List.getElem?_toArray, List.getElem?_cons_succ, List.getElem?_cons_zero, Option.some.injEq] at ho; subst ho; refine Or.inl ⟨by rfl, fun w' => ?_⟩; go_simp; try (with_reducible rfl))
    simp only [Act.put, List.setIfInBounds_toArray, List.set_cons_zero, List.set_cons_succ]
    refine take_op (i := 9) (d := some 5) (v := ?v10) rfl (by kernel_rfl) (by kernel_rfl) (by kernel_rfl) (fun _ _ _ h => h) (fun oi ho => ?hy10) ?rest10
    case hy10 => (simp only [List.getElem?_toArray, List.getElem?_cons_succ, List.getElem?_cons_zero, Option.some.injEq] at ho; subst ho; refine Or.inl ⟨by rfl, fun w' => ?_⟩; go_simp; try (with_reducible rfl))
    simp only [Act.put, List.setIfInBounds_toArray, List.set_cons_zero, List.set_cons_succ]
    refine wpAny_done (by kernel_rfl) ?_ _
    rotate_left
    exact AllReady.nil
    exact AllReady.nil
    refine cons_op (by decide) (fun o ho K hK => ?_) ?_
    simp only [List.getElem?_toArray, List.getElem?_cons_succ, List.getElem?_cons_zero, Option.some.injEq] at ho
    subst ho
    go_simp
    refine hK _ _ ?_
    clear hK K
    refine wpAny_ready (rs := [0]) (by kernel_rfl) (by simp) ?_
    refine cons_op (by decide) (fun o ho K hK => ?_) ?_
    simp only [List.getElem?_toArray, List.getElem?_cons_zero, Option.some.injEq] at ho
    subst ho
    refine step_load_mid (by rfl) 56 (.tmp 1) (by rfl) g 0 (by rfl) (sigL 0 x) _ HLD.out Tryz.underlying56 rfl HSZ.out ?_
    refine hK _ _ ?_
    clear hK K
    simp only [Act.put, List.setIfInBounds_toArray, List.set_cons_zero, List.set_cons_succ]
    refine wpAny_ready (rs := [6]) (by kernel_rfl) (by simp) ?_
    refine cons_op (by decide) (fun o ho K hK => ?_) ?_
    simp only [List.getElem?_toArray, List.getElem?_cons_succ, List.getElem?_cons_zero, Option.some.injEq] at ho
    subst ho
    refine step_store_mid (by rfl) 56 (.tmp 2) (.tmp 23) (by rfl) (g + 1) 0 (sigA 0 x) (by rfl) (by rfl) HTH.out (sig_size 0 x) (sigA_one 0 x) ?_
    refine hK _ _ ?_
    clear hK K
    simp only [Act.put]
    have k6 : (w2.drew.setCells (g + 1) 0 (sigA 0 x).toList).cell? ⟨g, 5, none⟩ = some (.int .i64 x) := (HB2.out.drew.farC (by omega) 0 (sigA 0 x).toList).cell 5
    have HR3 := hide (HR2.out.drew.setAll (sigA 0 x).toList rfl)
    have HX3 := hide (HX2.out.drew.setCells (g := g + 1) hgw 0 (sigA 0 x).toList)
    generalize w2.drew.setCells _ _ _ = w3 at *
    refine take_op (i := 7) (d := some 3) (v := ?v11) rfl (by kernel_rfl) (by kernel_rfl) (by kernel_rfl) (fun _ _ _ h => h) (fun oi ho => ?hy11) ?rest11
    case hy11 => (simp only [List.getElem?_toArray, List.getElem?_cons_succ, List.getElem?_cons_zero, Option.some.injEq] at ho; subst ho; refine Or.inl ⟨by rfl, fun w' => ?_⟩; go_simp; try (with_reducible rfl))
    simp only [Act.put, List.setIfInBounds_toArray, List.set_cons_zero, List.set_cons_succ]
    refine take_op (i := 8) (d := some 4) (v := ?v12) rfl (by kernel_rfl) (by kernel_rfl) (by kernel_rfl) (fun _ _ _ h => h) (fun oi ho => ?hy12) ?rest12
    case hy12 => (simp only [List.getElem?_toArray, List.getElem?_cons_succ, List.getElem?_cons_zero, Option.some.injEq] at ho; subst ho; refine Or.inl ⟨by rfl, fun w' => ?_⟩; go_simp; try (with_reducible rfl))
    simp only [Act.put, List.setIfInBounds_toArray, List.set_cons_zero, List.set_cons_succ]
    refine take_op (i := 9) (d := some 5) (v := ?v13) rfl (by kernel_rfl) (by kernel_rfl) (by kernel_rfl) (fun _ _ _ h => h) (fun oi ho => ?hy13) ?rest13
    case hy13 => (simp only [List.getElem?_toArray, List.getElem?_cons_succ, List.getElem?_cons_zero, Option.some.injEq] at ho; subst ho; refine Or.inl ⟨by rfl, fun w' => ?_⟩; go_simp; try (with_reducible rfl))
    simp only [Act.put, List.setIfInBounds_toArray, List.set_cons_zero, List.set_cons_succ]
    refine wpAny_done (by kernel_rfl) ?_ _
    rotate_left
    exact AllReady.nil
    exact AllReady.nil
    exact AllReady.nil
    all_goals
      go_wp2_with fail
      exact take_ret rfl rfl rfl rfl rfl HR3.out ⟨rfl, HX3.out⟩
end Go.Proofs.YthmojneobkaolaaGreatDoor
