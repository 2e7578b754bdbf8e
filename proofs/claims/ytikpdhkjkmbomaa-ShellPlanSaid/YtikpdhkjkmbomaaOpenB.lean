/- A slice of bools that came in. Plain theorems. -/
import Derived.Test.YtikpdhkjkmbomaaOpenS
import Derived.Test.YtikpdhkjkmbomaaMkOps
import Derived.Deep.Grids
namespace Go.Proofs.Ytikpdhkjkmbomaa
open Go.RowKit Go.ChangeShapes Go.WideShapes Go.Joins Go.Deep

section
variable {H : Type} {enc : TypeId × Value → H} {w : World} {base : Nat} {held : Bool}
theorem open_boolsV {P : Program} {t e : TypeId} {fuel : Nat} {v : Value} {x : DataW H × List MemPlace} (ht : P.underlying t = some (.slice e)) (he : P.underlying e = some .bool) (hC : P.cellsOf e = 1)
    (h : DataW.trod enc P w base (fun _ => true) held fuel t [v] = some x) : ∃ A n c bs, v = .slice A n c ∧ n ≤ c ∧ c ≤ maxLen ∧ Reads w w.heap.size 1 A n (boolsV bs) := by
  rcases open_bools ht he hC h with ⟨hcs, _⟩ | ⟨x, l, c, B, hcs, _, hl, hm, _, hcell⟩
  · simp at hcs
    exact ⟨none, 0, 0, [], hcs, Nat.le_refl _, Nat.zero_le _, Reads.none_⟩
  · simp at hcs
    refine ⟨some x, l, c, (List.range l).map B, hcs, hl, hm, ⟨by simp [boolsV], fun hn => ⟨x, rfl, ?_, fun j u hu => ?_⟩⟩⟩
    · have := World.block_lt_of_cell? w _ (hcell 0 (by omega))
      rwa [add_block] at this
    · have hj : j < l := by
        have := (List.getElem?_eq_some_iff.1 hu).1
        simpa [boolsV] using this
      rw [hcell j (by omega)]
      simp [boolsV, hj] at hu
      rw [← hu]
end
end Go.Proofs.Ytikpdhkjkmbomaa
