/- Closed facts of the row of TopSleepers, one by one: all at once they fell the kernel. -/
import Derived.Test.YthmojneobkaolaaGreatDoorCards
import Derived.Test.YthmojneobkaolaaGreatDoorTie
import Derived.SevenTiedAt
import Derived.JoinedOf
namespace Go.Proofs.YthmojneobkaolaaGreatDoor.topSleepers
open Go
set_option linter.unusedVariables false

noncomputable abbrev P : Program := Tryz.pinned.checked.prog
noncomputable abbrev f : FuncId := 3
noncomputable abbrev fn : Func := Tryz.f3
noncomputable abbrev s : ChangeSpec := Rows.topSleepersSpec
noncomputable abbrev c : OpenClaim := Rows.topSleepersRow
theorem fact0 : (c.wf (OpenSpec.ofChange s)) = true := by kernel_rfl
theorem fact1 : (laidOutB P) = true := by kernel_rfl
theorem fact2 : (mapsRowed P) = true := by kernel_rfl
theorem fact3 : (fn.params.all (P.readableRec ·)) = true := by kernel_rfl
theorem fact4 : (namedTie P c.named s.vars) = true := by kernel_rfl
theorem fact5 : ((c.stops == [])) = true := by kernel_rfl
theorem fact6 : ((P.stops == [])) = true := by kernel_rfl
theorem fact7 : ((c.knobs == [])) = true := by kernel_rfl
theorem fact8 : ((P.stopKnobs == [])) = true := by kernel_rfl
theorem fact9 : ((c.inPlace == P.inPlace f)) = true := by kernel_rfl
theorem fact10 : ((c.unfollowed == P.unfollowed f)) = true := by kernel_rfl
theorem fact11 : ((c.recurses == P.recurses f)) = true := by kernel_rfl
theorem fact12 : ((c.named == P.varsNamed f)) = true := by kernel_rfl
theorem fact13 : ((c.maps == (fn.params.toList ++ s.plain.varTypes P).any (P.mapsRec ·))) = true := by kernel_rfl
theorem fact14 : ((c.ifaces == (fn.params.toList ++ s.plain.varTypes P).any (P.ifacesRec ·))) = true := by kernel_rfl
theorem fact15 : ((c.mapsOut == P.mapsAmong fn.resultTypes.toList)) = true := by kernel_rfl
theorem fact16 : ((c.loops == (fn.params.toList ++ s.plain.varTypes P).any (P.loopsFrom ·))) = true := by kernel_rfl
theorem fact17 : ((c.wideKeys == (fn.params.toList ++ s.plain.varTypes P ++ fn.resultTypes.toList).any (P.wideKeysFrom ·))) = true := by kernel_rfl
theorem fact18 : (s.vars.all (P.varReadable ·)) = true := by kernel_rfl
theorem fact19 : (fn.resultTypes.all (fun t => P.readableRec t && decide (t < P.types.size))) = true := by kernel_rfl
theorem fact20 : ((c.ifacesOut == fn.resultTypes.toList.any (P.ifacesRec ·))) = true := by kernel_rfl
theorem fact21 : ((c.loopsOut == fn.resultTypes.toList.any (P.loopsFrom ·))) = true := by kernel_rfl
theorem fact22 : ((c.plainKeys == P.plainKeys)) = true := by kernel_rfl
theorem fact23 : (c.shortTexts.isNone) = true := by kernel_rfl
theorem fact24 : (P.stopsHeard) = true := by kernel_rfl
theorem fact25 : (P.mayEnter) = true := by kernel_rfl
theorem fact26 : ((c.lifted == P.liftsFinal)) = true := by kernel_rfl
theorem fact27 : ((P.make == some c.make)) = true := by kernel_rfl
theorem fact29 : ((c.pinned == c.pinnedBy)) = true := by kernel_rfl
theorem fact30 : ((c.veiled == (fn.params.toList ++ s.plain.varTypes P ++ fn.resultTypes.toList).any (P.veiledRec ·))) = true := by kernel_rfl
theorem fact31 : (c.veiledFits P fn.params.toList (fn.params.toList ++ s.plain.varTypes P ++ fn.resultTypes.toList)) = true := by kernel_rfl
end Go.Proofs.YthmojneobkaolaaGreatDoor.topSleepers
