/- Slices of int that read as lists. Plain theorems, no condition. -/
import Derived.Test.YthmojneobkaolaaGreatDoorMem
namespace Go.Proofs.YthmojneobkaolaaGreatDoor
open Go.RowKit

def intsV (xs : List Int) : List Value := xs.map (Value.int .i64)
theorem intsV_length (xs : List Int) : (intsV xs).length = xs.length := by simp [intsV]
theorem intsV_one (xs : List Int) : ∀ u ∈ intsV xs, u.oneCell' = true := by
  intro u hu
  obtain ⟨x, _, rfl⟩ := List.mem_map.1 hu
  rfl
theorem intsV_append (a b : List Int) : intsV (a ++ b) = intsV a ++ intsV b := by simp [intsV]
theorem intsV_take (a : List Int) (k : Nat) : (intsV a).take k = intsV (a.take k) := by simp [intsV]
theorem intsV_drop (a : List Int) (k : Nat) : (intsV a).drop k = intsV (a.drop k) := by simp [intsV]
theorem intsV_getElem (xs : List Int) (i : Nat) (h : i < (intsV xs).length) : (intsV xs)[i] = .int .i64 (xs.getD i 0) := by
  have : i < xs.length := by simpa [intsV] using h
  simp [intsV, List.getD_eq_getElem?_getD, this]
/-- The cells of a slice that are read, as the walk spells them. -/
theorem cells_ints {w : World} {B n b off : Nat} {xs : List Int} (h : Reads w B 1 (some ⟨b, off, none⟩) n (intsV xs)) (i : Nat) (hi : i < n) : w.cell? ⟨b, off + i, none⟩ = some (.int .i64 (xs.getD i 0)) := by
  obtain ⟨b', off', he, _, hc⟩ := h.at1 (by omega)
  simp only [Option.some.injEq, Addr.mk.injEq, and_true] at he
  obtain ⟨rfl, rfl⟩ := he
  rw [hc i hi, intsV_getElem]
end Go.Proofs.YthmojneobkaolaaGreatDoor
