/- A line at which all comes: one closed fact. Plain laws. -/
import Derived.Test.YtacfffegmmdgfaaLineP
namespace Go.Proofs.Ytacfffegmmdgfaa
open Go.RowKit
set_option linter.unusedVariables false

def talkDs : List DeedD := [⟨4, 0, 0, []⟩, ⟨4, 0, 0, []⟩, ⟨4, 0, 0, []⟩, ⟨1, 0, 0, [104, 105]⟩, ⟨4, 0, 0, []⟩, ⟨2, 1, 9, []⟩]
theorem talked_run : (runL 1 2 talkDs).g 1 = [104, 105] ∧ (runL 1 2 talkDs).p 0 = [104, 105] := ⟨by kernel_rfl, by kernel_rfl⟩
end Go.Proofs.Ytacfffegmmdgfaa
