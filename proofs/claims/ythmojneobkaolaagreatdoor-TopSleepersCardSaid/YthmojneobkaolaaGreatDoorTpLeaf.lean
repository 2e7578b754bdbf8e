/- Small functions. -/
import Derived.Test.YthmojneobkaolaaGreatDoorTpRun7
import Derived.Test.YthmojneobkaolaaGreatDoorTpSig3
import Derived.Test.YthmojneobkaolaaGreatDoorTpOpen
import Derived.Test.YthmojneobkaolaaGreatDoorRetC
namespace Go.Proofs.YthmojneobkaolaaGreatDoor
open Go.RowKit
set_option linter.unusedVariables false

theorem far_eq (a b : Int) (ha : 0 ≤ a) (ha2 : a ≤ 1000000) (hb : 0 ≤ b) (hb2 : b ≤ 1000000) : wrap64 (wrap32 ((b - a) % 4294967296)) = b - a := by
  unfold wrap64 wrap32
  omega
theorem far_ok (a b : Nat) (ha : a ≤ 1000000) (hb : b ≤ 1000000) (w : World) : Calls Tryz.prog 44 #[.int .u32 (a : Int), .int .u32 (b : Int)] w fun e w' => e = .returned (.int .i64 ((b : Int) - (a : Int))) ∧ w = w' := by
  have h1 := far_eq (a : Int) (b : Int) (by omega) (by omega) (by omega) (by omega)
  go_enter Tryz.func44, Tryz.ntmps44
  go_wp2_with fail
  go_ret
  exact ⟨congrArg (fun x => Ending.returned (.int .i64 x)) h1, rfl⟩
theorem wheelnew_ok (w : World) : Calls Tryz.prog 29 #[.int .u32 0] w fun e w' => ∃ g, e = .returned (.pointer (some ⟨g, 0, none⟩)) ∧ Blk w' g 108 #[.int .u32 0, .slice none 0 0] ∧ w.heap.size ≤ g ∧ Ext w w' := by
  go_enter Tryz.func29, Tryz.ntmps29
  go_wp2_with fail
  go_ret
  exact ⟨_, rfl, Blk.new _ _ _, Nat.le_refl _, (Ext.refl w).alloc _⟩
theorem pipenew_ok (w : World) : Calls Tryz.prog 28 #[] w fun e w' => ∃ g, e = .returned (.pointer (some ⟨g, 0, none⟩)) ∧ w.heap.size ≤ g ∧ Ext w w' := by
  go_enter Tryz.func28, Tryz.ntmps28
  go_wp2_with fail
  go_ret
  exact ⟨_, rfl, Nat.le_refl _, (Ext.refl w).alloc _⟩
/-- What a call is answered: an error, and two numbers. -/
def ansL (er a b : Int) : List Value := [.int .i64 er, .int .i64 a, .int .i64 b, .slice none 0 0, .slice none 0 0, .int .i64 0, .int .i64 0, .int .i64 0, .int .i64 0, .int .i64 0, .int .i64 0]
def ansV (er a b : Int) : Value := .agg (ansL er a b).toArray
theorem ans_size (er a b : Int) : (Tryz.prog.info? 34).map (·.size) = some (ansL er a b).length := by
  show _ = some 11
  kernel_rfl
theorem ans_one (er a b : Int) : (ansL er a b).toArray.all (·.oneCell') = true := by simp [ansL, Value.oneCell']
/-- The end of a function whose one result is an answer in a cell. -/
theorem ans_ret (F : Func) {R : Ending → World → Prop} {a : Act} {W : World} {g : Nat} {er x y : Int} (c : Nat) (hf : F.results = #[.cell c 34]) (hd : a.defers = []) (hc : a.tmps.getD c undef = .pointer (some ⟨g, 0, none⟩)) (hb : Blk W g 34 (ansL er x y).toArray)
    (hR : R (.returned (ansV er x y)) W) : bodyPost Tryz.prog F R .ret a W :=
  ret_cell F c hf hd hc hb.all Tryz.underlying34 rfl (ans_size er x y) hR
theorem fail_ok (er : Int) (w : World) : Calls Tryz.prog 13 #[.int .i64 er] w fun e w' => e = .returned (ansV er 0 0) ∧ Ext w w' := by
  have HB := hide (Blk.new w 34 (ansL 0 0 0).toArray)
  have HX := hide ((Ext.refl w).alloc (.cells (ansL 0 0 0).toArray 34))
  go_enter Tryz.func13, Tryz.ntmps13
  go_upto_region 1 with fail
  obtain ⟨g, hg⟩ : ∃ g, w.heap.size = g := ⟨_, rfl⟩
  have hgw : w.heap.size ≤ g := by omega
  rw [hg] at HB ⊢
  clear hg
  simp only [ansL] at HB HX
  generalize w.alloc _ = W at *
  have HTH := hide (HB.out.there_ 0 11 (by simp))
  go_wp2_with ((with_reducible refine wpList_store_mid rfl 34 (.tmp 2) (.tmp 4) rfl g 0 (ansL er 0 0).toArray rfl ?_ ?_ ?_ ?_ ?_); (exact rfl); (exact HTH.out); (exact ans_size er 0 0); (exact ans_one er 0 0))
  exact ans_ret Tryz.f13 2 rfl rfl rfl (HB.out.setAll (ansL er 0 0) rfl) ⟨rfl, HX.out.setCells hgw 0 _⟩
end Go.Proofs.YthmojneobkaolaaGreatDoor
