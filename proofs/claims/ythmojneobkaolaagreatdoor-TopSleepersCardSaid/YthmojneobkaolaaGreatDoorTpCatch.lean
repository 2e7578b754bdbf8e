/- edge.Catch of a call that does not panic. -/
import Derived.Test.YthmojneobkaolaaGreatDoorTpLeaf
import Derived.Defers
import Derived.Recover
namespace Go.Proofs.YthmojneobkaolaaGreatDoor
open Go.RowKit
set_option linter.unusedVariables false

set_option maxRecDepth 100000 in
theorem catch_idle (p : Addr) (w : World) :
    CallsD Tryz.prog 39 #[.pointer (some p)] .returning w fun e u' w' => e = .returned (.tuple #[]) ∧ u' = .returning ∧ w' = w := by
  refine callsD_of_wpS Tryz.func39 rfl fun c₀ cs hu => ?_
  apply wpS_seq
  apply wpS_region
  simp [wpOpsS, go_sem, recoverD, hu, Tryz.ntmps39, Exit.thenS]
  apply wpS_seq
  apply wpS_region
  simp [wpOpsS, go_sem, Exit.thenS]
  refine wpS_cond (t := false) (by simp [Act.eval, Array.replicate]) ?_
  simp only [Bool.false_eq_true, if_false]
  refine wpS_of_wp (wp_skip ?_)
  cases c₀
  simp_all [bodyPostS, results, Tryz.results39]
set_option maxHeartbeats 8000000 in
set_option maxRecDepth 100000 in
/-- Catch of the kernel's own closure. -/
theorem catch_ok {R : Int → Int → Int → World → Prop} (p0 p1 p2 : Addr) (w : World)
    (h : Calls Tryz.prog 16 #[.pointer (some p0), .pointer (some p1), .pointer (some p2)] (w.alloc (.cells (ansL 0 0 0).toArray 34)) fun e w' => ∃ er x y, e = .returned (ansV er x y) ∧ Blk w' w.heap.size 34 (ansL 0 0 0).toArray ∧ R er x y w') :
    Calls Tryz.prog 15 #[.func (.func 16) #[] #[.pointer (some p0), .pointer (some p1), .pointer (some p2)]] w fun e w'' => ∃ er x y w', e = .returned (ansV er x y) ∧ R er x y w' ∧ w'' = w'.setCells w.heap.size 0 (ansL er x y) := by
  have hmf : ∀ (fn : Fn) (first cap : Array Value) (w : World), (Instr.makeFunc fn first cap).run Tryz.prog w = .ok (.func fn first cap) w := fun _ _ _ _ => rfl
  have H := hide h
  simp only [ansL] at H
  clear h
  go_enter_defers Tryz.func15, Tryz.ntmps15
  go_upto_region 1 with fail
  obtain ⟨g, hg⟩ : ∃ g, w.heap.size = g := ⟨_, rfl⟩
  rw [hg] at H ⊢
  have HG := hide hg
  clear hg
  generalize w.alloc _ = W at *
  go_wp2_with fail
  refine H.out.mono ?_
  rintro e w1 ⟨er, x, y, rfl, hb, hr⟩
  have HB := hide hb
  have HR := hide hr
  have HTH := hide (hb.there_ 0 11 (by simp))
  clear hb hr H
  go_wp2_with ((with_reducible refine wpList_store_mid rfl 34 (.tmp 2) (.tmp 5) rfl g 0 (ansL er x y).toArray rfl ?_ ?_ ?_ ?_ ?_); (exact rfl); (exact HTH.out); (exact ans_size er x y); (exact ans_one er x y))
  have HL := hide (run_loadVar_mid (P := Tryz.prog) (w1.setCells g 0 (ansL er x y)) g 0 34 (ansL er x y) _ ((HB.out.setAll (ansL er x y) rfl).all) Tryz.underlying34 rfl (ans_size er x y))
  refine leaves_cons (f := 39) (args := #[.pointer (some ⟨g, 0, none⟩)]) (by simp) (by simp [go_sem]) ?_
  refine (catch_idle ⟨g, 0, none⟩ _).mono ?_
  rintro e u' w'' ⟨rfl, rfl, rfl⟩
  have hl := HL.out
  refine ⟨ansV er x y, ?_, er, x, y, w1, rfl, HR.out, by rw [HG.out]⟩
  simp [results, Tryz.results15, asAddr, Act.put, hl, ansV]
end Go.Proofs.YthmojneobkaolaaGreatDoor
