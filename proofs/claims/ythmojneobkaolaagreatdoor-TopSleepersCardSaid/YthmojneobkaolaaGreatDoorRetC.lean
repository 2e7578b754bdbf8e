/- What a function returns, where a result lies in a cell of several values. Plain theorems, no condition. -/
import Derived.Test.YthmojneobkaolaaGreatDoorSetC
import Derived.WalkKit
namespace Go.Proofs.YthmojneobkaolaaGreatDoor
open Go.RowKit
set_option linter.unusedVariables false

section
variable {P : Program} {R : Ending → World → Prop} {a : Act} {W : World} {g o : Nat} {T : TypeId} {cs : List Value} {dt : TypeDesc}
/-- One result, in a cell. -/
theorem ret_cell (F : Func) (c : Nat) (hf : F.results = #[.cell c T]) (hd : a.defers = []) (hc : a.tmps.getD c undef = .pointer (some ⟨g, o, none⟩)) (hr : W.rangeAt g o cs)
    (hu : P.underlying T = some dt) (hrow : dt.isRow = true) (hi : (P.info? T).map (·.size) = some cs.length) (hR : R (.returned (.agg cs.toArray)) W) : bodyPost P F R .ret a W := by
  have hl := run_loadVar_mid W g o T cs dt hr hu hrow hi
  have hc' : a.tmps[c]?.getD undef = .pointer (some ⟨g, o, none⟩) := by simpa using hc
  exact bodyPost_ret (v := .agg cs.toArray) (by simp [results, hf, asAddr, hc', hl]) hd hR
/-- Two results, the first one in a cell. -/
theorem ret_cell_tmp (F : Func) (c j : Nat) {v : Value} (hf : F.results = #[.cell c T, .tmp j]) (hd : a.defers = []) (hc : a.tmps.getD c undef = .pointer (some ⟨g, o, none⟩)) (hj : a.tmps.getD j undef = v) (hr : W.rangeAt g o cs)
    (hu : P.underlying T = some dt) (hrow : dt.isRow = true) (hi : (P.info? T).map (·.size) = some cs.length) (hR : R (.returned (.tuple #[.agg cs.toArray, v])) W) : bodyPost P F R .ret a W := by
  have hl := run_loadVar_mid W g o T cs dt hr hu hrow hi
  have hc' : a.tmps[c]?.getD undef = .pointer (some ⟨g, o, none⟩) := by simpa using hc
  have hj' : a.tmps[j]?.getD undef = v := by simpa using hj
  exact bodyPost_ret (v := .tuple #[.agg cs.toArray, v]) (by simp [results, hf, asAddr, hc', hj', hl]) hd hR
end
end Go.Proofs.YthmojneobkaolaaGreatDoor
