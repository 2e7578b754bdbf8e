/- The wheel of timers: one goes. -/
import Derived.Test.YthmojneobkaolaaGreatDoorTpDel
namespace Go.Proofs.YthmojneobkaolaaGreatDoor
open Go.RowKit
set_option linter.unusedVariables false

set_option maxHeartbeats 8000000 in
set_option maxRecDepth 100000 in
theorem wout_ok {b : Nat} {w : World} {hw now : Nat} {ls : List (Nat × Nat)} (h : WheelAt b w hw now ls) (hn : ls.length ≤ 20) (id : Nat) :
    Calls Tryz.prog 86 #[.pointer (some ⟨hw, 0, none⟩), .int .i64 (id : Int)] w fun e w' => (∃ x : Int, e = .returned (.int .i64 x)) ∧ (∃ ls', WheelAt b w' hw now ls' ∧ ls'.length ≤ 20) ∧ KeepL b [108, tmT] [] [] w w' := by
  obtain ⟨A, n, cp, hm⟩ := h
  have HM := hide hm
  have hln := hm.len
  have HFI := hide (tfind_any hm (by omega) id)
  clear hm
  go_enter Tryz.func86, Tryz.ntmps86
  go_wp2_with fail
  refine HFI.out.mono ?_
  rintro e w1 ⟨hf, hx⟩
  have HX := hide hx
  have HM1 := hide (HM.out.ext hx)
  clear hx HFI
  rcases hf with ⟨rfl, -⟩ | ⟨i, p, rfl, hi, hp, hpe⟩
  · go_wp2_with fail
    go_ret
    exact ⟨⟨_, rfl⟩, ⟨ls, ⟨A, n, cp, HM1.out⟩, hn⟩, KeepL.of HX.out _ _ _ _⟩
  · obtain ⟨g, rfl, -⟩ := own_addr HM1.out.row (by omega)
    have c1 : w1.cell? ⟨hw, 1, none⟩ = some (.slice (some ⟨g, 0, none⟩) n cp) := HM1.out.box.cell 1
    have HDL := hide (delete_tm b g n cp i ls w1 HM1.out.row (tmV_one ls) hi)
    have t1 : decide ((i : Int) < 0) = false := decide_eq_false (by omega)
    have e1 : IntKind.i64.wrap ((i : Int) + 1) = (i : Int) + 1 := by rw [IntKind.wrap_i64]; omega
    go_wp2_with fail
    refine HDL.out.mono ?_
    rintro e w2 ⟨rfl, ho2, hg2⟩
    have HO2 := hide ho2
    have HB2 := hide (HM1.out.box.grown hg2 (own_blk_ne HM1.out.row HM1.out.box (by decide)).symm)
    have HK2 := hide ((KeepL.of HX.out b [108, tmT] [] []).trans (KeepL.grown HM1.out.row (by simp) (Nat.le_refl _) hg2))
    have d1 : w2.cell? ⟨hw, 1, none⟩ = some (.slice (some ⟨g, 0, none⟩) n cp) := HB2.out.cell 1
    have f1 := HB2.out.frozen 1
    clear c1 ho2 hg2
    go_wp2_with fail
    go_ret
    refine ⟨⟨_, rfl⟩, ⟨ls.eraseIdx i, ⟨_, n - 1, cp, HB2.out.set_ 1 _, HM.out.ge, own_far HO2.out (p := ⟨hw, 1, none⟩) (own_blk_ne HO2.out HB2.out (by decide)) _, fun p hp => HM.out.small p (List.mem_of_mem_eraseIdx hp), HM.out.nows⟩, by rw [List.length_eraseIdx]; split <;> omega⟩, HK2.out.trans (KeepL.set HB2.out (.inl (by simp)) HM.out.ge 1 _)⟩
end Go.Proofs.YthmojneobkaolaaGreatDoor
