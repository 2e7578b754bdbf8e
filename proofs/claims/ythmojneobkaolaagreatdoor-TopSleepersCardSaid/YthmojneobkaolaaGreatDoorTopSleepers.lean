/- A process sleeps exactly as long as requested, unless a signal wakes it: the law TopSleepers returns true for every input. Condition: the listed variables of Go's library hold what its text lays (the card ties them). -/
import Derived.Test.YthmojneobkaolaaGreatDoorTpLifted
import Derived.Test.YthmojneobkaolaaGreatDoorTpFacts2
import Derived.Test.YthmojneobkaolaaGreatDoorCards
import Derived.Test.YthmojneobkaolaaGreatDoorTie
import Derived.SevenTiedAt
namespace Go.Proofs.YthmojneobkaolaaGreatDoor.topSleepers
open Go.ChangeShapes Go.WideShapes Go.ChangeAt Go.RowKit Go.Joins
set_option linter.unusedVariables false

theorem goes_none : (Tryz.prog.funcs.any Func.goes) = false := by kernel_rfl
theorem goes_false : false = Rows.topSleepersRow.goesBy Tryz.pinned.checked.prog := by
  have h : ∀ f, Tryz.prog.goes f = false := fun f => by
    unfold Program.goes
    rw [goes_none, Bool.and_false, Bool.or_false]
    refine List.any_eq_false.2 fun g _ => ?_
    cases hg : Tryz.prog.funcs[g]? with
    | none => simp
    | some fn =>
      have := goes_none
      rw [Array.any_eq_false'] at this
      simpa using this fn (Array.mem_of_getElem? hg)
  show false = Tryz.prog.goesAt .entering Rows.topSleepersRow.func
  unfold Program.goesAt Program.goesFrom
  cases Tryz.prog.funcNamed Rows.topSleepersRow.func with
  | none => rfl
  | some f => simp [h f]
theorem holds : Rows.TopSleepersSaid :=
  OpenClaim.holds_of_wide 3 Tryz.f3 rfl rfl rfl rfl rfl rfl rfl ⟨rfl, rfl, rfl, rfl, rfl⟩ rfl rfl rfl rfl rfl (by kernel_rfl) Tryz.func3 closed
    (of_decide_eq_true (by kernel_rfl)) (by unfold Func.isWrapper; first | (rw [if_pos (by decide +kernel)]; kernel_rfl) | (rw [if_neg (by decide +kernel)]; exact ⟨rfl, rfl⟩))
    (fun os started H enc _ => lifted os started H enc)

theorem proved : Rows.TopSleepersCardSaid :=
  Claim7.holds_tied_plain_at .later [] [.data, .pinned] true (true, "b40f4f8f44aaa0a9cdfa39e1cf483ba2b9e8f572719b6209dad9b99415ecdb3e") false holds (fun _ h => by cases h) (by kernel_rfl) (fun _ h => by cases h) topSleepers_row_tie rfl ⟨rfl, rfl⟩ (by kernel_rfl) rfl
    (fun f fn hf hfn => by
      obtain rfl : f = 3 := Option.some.inj ((show Tryz.prog.funcNamed "ringhall/ringtop.TopSleepers" = some 3 by kernel_rfl).symm.trans hf) |>.symm
      obtain rfl : fn = Tryz.f3 := (Option.some.inj (Tryz.func3.symm.trans hfn)).symm
      exact ⟨by kernel_rfl, fun j t ht => by
        rw [Tryz.params3] at ht
        have hm : t ∈ [22, 4] := by simpa using Array.mem_of_getElem? ht
        have hall : ([22, 4].all fun u => !Tryz.prog.wantsStandIn u) = true := by kernel_rfl
        exact (show Tryz.prog.wantsStandIn t = false by simpa using List.all_eq_true.1 hall t hm)⟩)
    goes_false
#print axioms proved
end Go.Proofs.YthmojneobkaolaaGreatDoor.topSleepers
