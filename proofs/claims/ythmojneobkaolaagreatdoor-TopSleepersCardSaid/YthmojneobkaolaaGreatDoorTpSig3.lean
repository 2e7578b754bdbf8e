/- Sending and handling signals; a child's set. -/
import Derived.Test.YthmojneobkaolaaGreatDoorTpSig2
namespace Go.Proofs.YthmojneobkaolaaGreatDoor
open Go.RowKit
set_option linter.unusedVariables false

theorem fn_ret (F : Func) {R : Ending → World → Prop} {a : Act} {W : World} {g : Nat} {p x : Int} {v : Value} (c j : Nat) (hf : F.results = #[.cell c 56, .tmp j]) (hd : a.defers = []) (hc : a.tmps.getD c undef = .pointer (some ⟨g, 0, none⟩)) (hj : a.tmps.getD j undef = v) (hb : Blk W g 56 (sigA p x)) (hR : R (.returned (.tuple #[.agg (sigA p x), v])) W) : bodyPost Tryz.prog F R .ret a W := by
  have hl := sig_load hb
  have hc' : a.tmps[c]?.getD undef = .pointer (some ⟨g, 0, none⟩) := by simpa using hc
  have hj' : a.tmps[j]?.getD undef = v := by simpa using hj
  exact bodyPost_ret (v := .tuple #[.agg (sigA p x), v]) (by simp [results, hf, asAddr, hc', hj', hl]) hd hR
theorem signumber_ok (w : World) : Calls Tryz.prog 190 #[.int .i64 3] w fun e w' => e = .returned (.bool true) ∧ w = w' := by
  go_enter Tryz.func190, Tryz.ntmps190
  go_wp2_with fail
  go_ret
  exact ⟨rfl, rfl⟩
set_option maxHeartbeats 8000000 in
set_option maxRecDepth 100000 in
theorem sigchild_ok (x : Int) (hx : 0 ≤ x) (w : World) :
    Calls Tryz.prog 187 #[.agg (sigA 0 x), .bool false] w fun e w' => e = .returned (.tuple #[.agg (sigA 0 x), .int .i64 0]) ∧ Ext w w' := by
  have HC := hide (sigcheck_ok 0 x (.inl rfl) hx)
  obtain ⟨hb, hr, hx0⟩ := two_boxes w 0 x
  have HB := hide hb
  have HR := hide hr
  have HX := hide hx0
  clear hb hr hx0
  go_enter Tryz.func187, Tryz.ntmps187
  go_upto_region 1 with fail
  obtain ⟨g, hg⟩ : ∃ g, w.heap.size = g := ⟨_, rfl⟩
  have hgw : w.heap.size ≤ g + 1 := by omega
  have hgw2 : w.heap.size ≤ g := by omega
  rw [hg] at HB HR ⊢
  clear hg
  generalize (w.alloc _).alloc _ = W at *
  have HLD := hide (sig_range HB.out)
  have HSZ := hide (sig_size 0 x)
  go_wp2_with ((with_reducible refine wpList_load_mid rfl 56 (.tmp 2) rfl g 0 rfl (sigL 0 x) _ HLD.out Tryz.underlying56 rfl HSZ.out ?_))
  refine (HC.out W).mono ?_
  rintro e w1 ⟨rfl, hx1⟩
  have HX1 := hide (HX.out.trans hx1)
  have HR1 := hide (HR.out.ext hx1)
  have HB1 := hide (HB.out.ext hx1)
  clear hx1 HX HB HC HLD HR HSZ
  have k0 : w1.cell? ⟨g, 0, none⟩ = some (.int .i64 0) := HB1.out.cell 0
  have f0 := HB1.out.frozen 0
  go_upto_region 13 with fail
  have HB2 := hide (show Blk (w1.setCell ⟨g, 0, none⟩ (.int .i64 0)) g 56 (sigA 0 x) from by have := HB1.out.set_ 0 (.int .i64 0); rwa [sigA_set] at this)
  have HR2 := hide (HR1.out.far (p := ⟨g, 0, none⟩) (by dsimp only; omega) (.int .i64 0))
  have HX2 := hide (HX1.out.setCell (p := ⟨g, 0, none⟩) hgw2 (.int .i64 0))
  clear HX1 HB1 HR1 k0 f0
  generalize w1.setCell _ _ = w2 at *
  have HLD := hide (sig_range HB2.out)
  have HSZ := hide (sig_size 0 x)
  have HTH := hide (HR2.out.there_ 0 (sigA 0 x).size (by rw [Nat.zero_add]; exact Nat.le_refl _))
  go_wp2_with (first | ((with_reducible refine wpList_load_mid rfl 56 (.tmp 2) rfl g 0 rfl (sigL 0 x) _ HLD.out Tryz.underlying56 rfl HSZ.out ?_)) | ((with_reducible refine wpList_store_mid rfl 56 (.tmp 4) (.tmp 29) rfl (g + 1) 0 (sigA 0 x) rfl ?_ HTH.out ?_ (sigA_one 0 x) ?_); (exact rfl); (exact sig_size 0 x)))
  exact fn_ret Tryz.f187 4 5 rfl rfl rfl rfl (HR2.out.setAll (sigA 0 x).toList rfl) ⟨rfl, HX2.out.setCells hgw 0 _⟩
set_option maxHeartbeats 8000000 in
set_option maxRecDepth 100000 in
theorem sigsend_ok (x : Int) (hx : 0 ≤ x) (h1 : x ≠ 1) (w : World) :
    Calls Tryz.prog 160 #[.agg (sigA 0 x), .int .i64 3] w fun e w' => e = .returned (.tuple #[.agg (sigA 8 x), .int .i64 0]) ∧ Ext w w' := by
  have HC := hide (sigcheck_ok 0 x (.inl rfl) hx)
  obtain ⟨hb, hr, hx0⟩ := two_boxes w 0 x
  have HB := hide hb
  have HR := hide hr
  have HX := hide hx0
  clear hb hr hx0
  go_enter Tryz.func160, Tryz.ntmps160
  go_upto_region 1 with fail
  obtain ⟨g, hg⟩ : ∃ g, w.heap.size = g := ⟨_, rfl⟩
  have hgw : w.heap.size ≤ g + 1 := by omega
  have hgw2 : w.heap.size ≤ g := by omega
  rw [hg] at HB HR ⊢
  clear hg
  generalize (w.alloc _).alloc _ = W at *
  have HLD := hide (sig_range HB.out)
  have HSZ := hide (sig_size 0 x)
  go_wp2_with ((with_reducible refine wpList_load_mid rfl 56 (.tmp 2) rfl g 0 rfl (sigL 0 x) _ HLD.out Tryz.underlying56 rfl HSZ.out ?_))
  refine (HC.out W).mono ?_
  rintro e w1 ⟨rfl, hx1⟩
  have HX1 := hide (HX.out.trans hx1)
  have HR1 := hide (HR.out.ext hx1)
  have HB1 := hide (HB.out.ext hx1)
  clear hx1 HX HB HC HLD HR HSZ
  have HN := hide signumber_ok
  go_wp2_with fail
  refine (HN.out w1).mono ?_
  rintro e w1' ⟨rfl, rfl⟩
  have k0 : w1.cell? ⟨g, 0, none⟩ = some (.int .i64 0) := HB1.out.cell 0
  have k5 : w1.cell? ⟨g, 5, none⟩ = some (.int .i64 x) := HB1.out.cell 5
  have f0 := HB1.out.frozen 0
  have t1 : (x == 1) = false := beq_eq_false_iff_ne.2 h1
  have m1 : bits BinOp.or IntKind.i64 0 (IntKind.i64.wrap 8) = 8 := by kernel_rfl
  go_upto_region 8 with fail
  go_region_law (fail)
  all_goals
    have HB2 := hide (show Blk (w1.setCell ⟨g, 0, none⟩ (.int .i64 8)).drew g 56 (sigA 8 x) from by have := HB1.out.set_ 0 (.int .i64 8); rw [sigA_set] at this; exact this.drew)
    have HR2 := hide ((HR1.out.far (p := ⟨g, 0, none⟩) (by dsimp only; omega) (.int .i64 8)).drew)
    have HX2 := hide ((HX1.out.setCell (p := ⟨g, 0, none⟩) hgw2 (.int .i64 8)).drew)
    clear HX1 HB1 HR1 k0 k5 f0 m1
    generalize (w1.setCell _ _).drew = w2 at *
    have HLD := hide (sig_range HB2.out)
    have HSZ := hide (sig_size 8 x)
    have HTH := hide (HR2.out.there_ 0 (sigA 8 x).size (by rw [Nat.zero_add]; exact Nat.le_refl _))
    go_wp2_with (first | ((with_reducible refine wpList_load_mid rfl 56 (.tmp 2) rfl g 0 rfl (sigL 8 x) _ HLD.out Tryz.underlying56 rfl HSZ.out ?_)) | ((with_reducible refine wpList_store_mid rfl 56 (.tmp 4) (.tmp 40) rfl (g + 1) 0 (sigA 8 x) rfl ?_ HTH.out ?_ (sigA_one 8 x) ?_); (exact rfl); (exact sig_size 8 x)))
    exact fn_ret Tryz.f160 4 5 rfl rfl rfl rfl (HR2.out.setAll (sigA 8 x).toList rfl) ⟨rfl, HX2.out.setCells hgw 0 _⟩
set_option maxHeartbeats 8000000 in
set_option maxRecDepth 100000 in
theorem sighandle_ok (w : World) :
    Calls Tryz.prog 111 #[.agg (sigA 0 0), .int .i64 3, .int .i64 64] w fun e w' => e = .returned (.tuple #[.agg (sigA 0 64), .int .i64 0]) ∧ Ext w w' := by
  have HC := hide (sigcheck_ok 0 0 (.inl rfl) (by omega))
  obtain ⟨hb, hr, hx0⟩ := two_boxes w 0 0
  have HB := hide hb
  have HR := hide hr
  have HX := hide hx0
  clear hb hr hx0
  go_enter Tryz.func111, Tryz.ntmps111
  go_upto_region 1 with fail
  obtain ⟨g, hg⟩ : ∃ g, w.heap.size = g := ⟨_, rfl⟩
  have hgw : w.heap.size ≤ g + 1 := by omega
  have hgw2 : w.heap.size ≤ g := by omega
  rw [hg] at HB HR ⊢
  clear hg
  generalize (w.alloc _).alloc _ = W at *
  have HLD := hide (sig_range HB.out)
  have HSZ := hide (sig_size 0 0)
  go_wp2_with ((with_reducible refine wpList_load_mid rfl 56 (.tmp 3) rfl g 0 rfl (sigL 0 0) _ HLD.out Tryz.underlying56 rfl HSZ.out ?_))
  refine (HC.out W).mono ?_
  rintro e w1 ⟨rfl, hx1⟩
  have HX1 := hide (HX.out.trans hx1)
  have HR1 := hide (HR.out.ext hx1)
  have HB1 := hide (HB.out.ext hx1)
  clear hx1 HX HB HC HLD HR HSZ
  have HN := hide signumber_ok
  go_wp2_with fail
  refine (HN.out w1).mono ?_
  rintro e w1' ⟨rfl, rfl⟩
  have k5 : w1.cell? ⟨g, 5, none⟩ = some (.int .i64 0) := HB1.out.cell 5
  have f5 := HB1.out.frozen 5
  go_upto_region 11 with fail
  have HB2 := hide (show Blk (w1.setCell ⟨g, 5, none⟩ (.int .i64 64)) g 56 (sigA 0 64) from by have := HB1.out.set_ 5 (.int .i64 64); rwa [sigA_how] at this)
  have HR2 := hide (HR1.out.far (p := ⟨g, 5, none⟩) (by dsimp only; omega) (.int .i64 64))
  have HX2 := hide (HX1.out.setCell (p := ⟨g, 5, none⟩) hgw2 (.int .i64 64))
  clear HX1 HB1 HR1 k5 f5
  generalize w1.setCell _ _ = w2 at *
  have HLD := hide (sig_range HB2.out)
  have HSZ := hide (sig_size 0 64)
  have HTH := hide (HR2.out.there_ 0 (sigA 0 64).size (by rw [Nat.zero_add]; exact Nat.le_refl _))
  go_wp2_with (first | ((with_reducible refine wpList_load_mid rfl 56 (.tmp 3) rfl g 0 rfl (sigL 0 64) _ HLD.out Tryz.underlying56 rfl HSZ.out ?_)) | ((with_reducible refine wpList_store_mid rfl 56 (.tmp 6) (.tmp 38) rfl (g + 1) 0 (sigA 0 64) rfl ?_ HTH.out ?_ (sigA_one 0 64) ?_); (exact rfl); (exact sig_size 0 64)))
  exact fn_ret Tryz.f111 6 7 rfl rfl rfl rfl (HR2.out.setAll (sigA 0 64).toList rfl) ⟨rfl, HX2.out.setCells hgw 0 _⟩
end Go.Proofs.YthmojneobkaolaaGreatDoor
