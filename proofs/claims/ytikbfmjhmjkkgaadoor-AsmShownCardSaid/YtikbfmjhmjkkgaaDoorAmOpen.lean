/- A slice of words that came in. Plain theorems. -/
import Derived.Test.YtikbfmjhmjkkgaaDoorOpenI
import Derived.Test.YtikbfmjhmjkkgaaDoorAmMem
namespace Go.Proofs.YtikbfmjhmjkkgaaDoor
open Go.RowKit Go.ChangeShapes Go.WideShapes Go.Joins Go.Deep
set_option linter.unusedVariables false

section
variable {H : Type} {enc : TypeId × Value → H} {w : World} {base : Nat} {held : Bool}
theorem open_u32V {P : Program} {t e : TypeId} {fuel : Nat} {v : Value} {x : DataW H × List MemPlace} (ht : P.underlying t = some (.slice e)) (he : P.underlying e = some (.int .u32)) (hC : P.cellsOf e = 1)
    (h : DataW.trod enc P w base (fun _ => true) held fuel t [v] = some x) : ∃ A n c l, v = .slice A n c ∧ n ≤ c ∧ c ≤ maxLen ∧ Reads w w.heap.size 1 A n (u32V l) ∧ (∀ x ∈ l, x ≤ 4294967295) ∧ (A = none → n = 0) := by
  rcases open_ints ht he hC h with ⟨hcs, _⟩ | ⟨x, l, c, zs, hcs, _, hl, hm, hz, _, hcell, hwz⟩
  · simp at hcs
    exact ⟨none, 0, 0, [], hcs, Nat.le_refl _, Nat.zero_le _, Reads.none_, by simp, fun _ => rfl⟩
  · simp at hcs
    have hz' : zs.length = c := by simpa using hz
    refine ⟨some x, l, c, (zs.take l).map Int.toNat, hcs, hl, hm, ⟨by simp [u32V]; omega, fun hn => ⟨x, rfl, ?_, fun j u hu => ?_⟩⟩, fun y hy => ?_, fun h => by cases h⟩
    · have := World.block_lt_of_cell? w _ (hcell 0 (by omega))
      rwa [add_block] at this
    · have hj : j < l := by
        have := (List.getElem?_eq_some_iff.1 hu).1
        simp [u32V] at this
        omega
      have hjz : j < zs.length := by omega
      rw [hcell j hjz]
      have e1 : zs.getD j 0 = zs[j] := by simp [List.getD_eq_getElem?_getD, hjz]
      have hb := bounds_u32 (hwz zs[j] (List.getElem_mem hjz))
      rw [e1]
      simp [u32V, hj, hjz] at hu
      rw [← hu, Int.max_eq_left hb.1]
    · obtain ⟨z, hz, rfl⟩ := List.mem_map.1 hy
      have hb := bounds_u32 (hwz z (List.mem_of_mem_take hz))
      omega
end
/-- The cells of a slice that are read, as the walk spells them. -/
theorem cells_u32 {w : World} {B n b off : Nat} {xs : List Nat} (h : Reads w B 1 (some ⟨b, off, none⟩) n (u32V xs)) (i : Nat) (hi : i < n) : w.cell? ⟨b, off + i, none⟩ = some (.int .u32 (xs.getD i 0 : Nat)) := by
  obtain ⟨b', off', he, _, hc⟩ := h.at1 (by omega)
  simp only [Option.some.injEq, Addr.mk.injEq, and_true] at he
  obtain ⟨rfl, rfl⟩ := he
  have hl := h.1
  rw [u32V_len] at hl
  rw [hc i hi]
  simp [u32V, List.getD_eq_getElem?_getD, show i < xs.length by omega]
end Go.Proofs.YtikbfmjhmjkkgaaDoor
