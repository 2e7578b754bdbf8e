/- A slice of ints that came in. Plain theorems. -/
import Derived.Test.YthmojneobkaolaaGreatDoorOpenS
import Derived.Test.YthmojneobkaolaaGreatDoorIntsV
namespace Go.Proofs.YthmojneobkaolaaGreatDoor
open Go.RowKit Go.ChangeShapes Go.WideShapes Go.Joins Go.Deep

section
variable {H : Type} {enc : TypeId × Value → H} {w : World} {base : Nat} {held : Bool}
theorem open_intsV {P : Program} {t e : TypeId} {fuel : Nat} {v : Value} {x : DataW H × List MemPlace} (ht : P.underlying t = some (.slice e)) (he : P.underlying e = some (.int .i64)) (hC : P.cellsOf e = 1)
    (h : DataW.trod enc P w base (fun _ => true) held fuel t [v] = some x) : ∃ A n c zs, v = .slice A n c ∧ n ≤ c ∧ c ≤ maxLen ∧ Reads w w.heap.size 1 A n (intsV zs) ∧ ∀ x ∈ zs, -9223372036854775808 ≤ x ∧ x ≤ 9223372036854775807 := by
  rcases open_ints ht he hC h with ⟨hcs, _⟩ | ⟨x, l, c, zs, hcs, _, hl, hm, hz, _, hcell, hwz⟩
  · simp at hcs
    exact ⟨none, 0, 0, [], hcs, Nat.le_refl _, Nat.zero_le _, Reads.none_, by simp⟩
  · simp at hcs
    have hz' : zs.length = c := by simpa using hz
    refine ⟨some x, l, c, zs.take l, hcs, hl, hm, ⟨by rw [intsV_length, List.length_take]; omega, fun hn => ⟨x, rfl, ?_, fun j u hu => ?_⟩⟩, fun y hy => bounds_i64 (hwz y (List.mem_of_mem_take hy))⟩
    · have := World.block_lt_of_cell? w _ (hcell 0 (by omega))
      rwa [add_block] at this
    · have hj : j < l := by
        have := (List.getElem?_eq_some_iff.1 hu).1
        rw [intsV_length, List.length_take] at this
        omega
      have hjz : j < zs.length := by omega
      rw [hcell j hjz]
      have e1 : zs.getD j 0 = zs[j] := by simp [List.getD_eq_getElem?_getD, hjz]
      rw [e1]
      simp [intsV, hj, hjz] at hu
      rw [← hu]
end
end Go.Proofs.YthmojneobkaolaaGreatDoor
