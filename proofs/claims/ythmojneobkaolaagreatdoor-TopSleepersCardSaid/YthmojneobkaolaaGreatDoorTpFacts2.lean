/- Closed facts of the row of TopSleepers, put together. -/
import Derived.Test.YthmojneobkaolaaGreatDoorTpFacts
import Derived.Test.YthmojneobkaolaaGreatDoorTpClosed
namespace Go.Proofs.YthmojneobkaolaaGreatDoor.topSleepers
open Go
set_option linter.unusedVariables false

theorem closed : joinedFacts P f fn s c = true := closed_of fact0 fact1 fact2 fact3 fact4 fact5 fact6 fact7 fact8 fact9 fact10 fact11 fact12 fact13 fact14 fact15 fact16 fact17 fact18 fact19 fact20 fact21 fact22 fact23 fact24 fact25 fact26 fact27 (by kernel_rfl) fact29 fact30 fact31
end Go.Proofs.YthmojneobkaolaaGreatDoor.topSleepers
