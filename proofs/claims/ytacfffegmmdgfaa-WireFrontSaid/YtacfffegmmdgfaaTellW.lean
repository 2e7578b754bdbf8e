/- What the walks of the three laws of wire share. -/
import Derived.Test.YtacfffegmmdgfaaTalkedW
import Derived.Test.YtacfffegmmdgfaaDeedsW
import Derived.Test.YtacfffegmmdgfaaRest
import Derived.Test.YtacfffegmmdgfaaShiftP
namespace Go.Proofs.Ytacfffegmmdgfaa
open Go.RowKit
set_option linter.unusedVariables false

def WellD (x : DeedD) : Prop := (1 ≤ x.kind ∧ x.kind ≤ 7) ∧ (x.end_ = 0 ∨ x.end_ = 1) ∧ (0 ≤ x.n ∧ x.n ≤ 256) ∧ x.data.length ≤ 50
theorem well_raw (y : DeedD) : WellD (rawD y) := by
  have h1 := restZ_lo y.kind 7 (by omega)
  have k1 := restZ_hi y.kind 7 (by omega)
  have h2 := restZ_lo y.end_ 2 (by omega)
  have k2 := restZ_hi y.end_ 2 (by omega)
  have h3 := restZ_lo y.n 20 (by omega)
  have k3 := restZ_hi y.n 20 (by omega)
  refine ⟨⟨?_, ?_⟩, ?_, ⟨?_, ?_⟩, ?_⟩
  · show 1 ≤ 1 + restZ y.kind 7; omega
  · show 1 + restZ y.kind 7 ≤ 7; omega
  · show restZ y.end_ 2 = 0 ∨ restZ y.end_ 2 = 1; omega
  · show 0 ≤ restZ y.n 20; omega
  · show restZ y.n 20 ≤ 256; omega
  · show (y.data.take 50).length ≤ 50
    rw [List.length_take]; omega
theorem well_deeds (l : List DeedD) : ∀ x ∈ deedsD l, WellD x := fun x hx => by
  obtain ⟨y, -, rfl⟩ := List.mem_map.1 hx
  exact well_raw y
/-- What deeds has made, handed to Run later. -/
theorem made_in {w w1 W : World} {l : List DeedD} {A : Option Addr} {m c : Nat} (h : Made4 w (deedsD l) A m c w1) (hx : Ext w1 W) :
    ∃ ls, ls.map (·.1) = deedsD l ∧ DeedsIn W W.heap.size A m ls := by
  obtain ⟨ls, he, ho, hd, hx0⟩ := h
  refine ⟨ls, he, (hx.reads (Reads.of_own ho) (Nat.le_refl _)).raise hx.size, Nat.le_refl _, fun x hxm => ?_⟩
  have hw : WellD x.1 := well_deeds l _ (he ▸ List.mem_map_of_mem hxm)
  obtain ⟨A', k, c', e, hk, hc, hr⟩ := hd x hxm
  exact ⟨hw.1, hw.2.1, hw.2.2.1, hw.2.2.2, A', k, c', W.heap.size, e, hk, hc, Nat.le_refl _, (((hx0.trans hx).reads hr (Nat.le_refl _))).raise ((hx0.trans hx).size)⟩
end Go.Proofs.Ytacfffegmmdgfaa
