/- A slice of records that came in. -/
import Derived.Test.YtngdhpjbfcgloaaOpenS
import Derived.Test.YtngdhpjbfcgloaaOrRecs
namespace Go.Proofs.Ytngdhpjbfcgloaa
open Go.RowKit Go.ChangeShapes Go.WideShapes Go.Joins Go.Deep
set_option linter.unusedVariables false

section
variable {H : Type} {enc : TypeId × Value → H} {w : World} {base : Nat} {spare : Nat → Bool} {held : Bool}
theorem open_recs {fuel : Nat} {v : Value} {x : DataW H × List MemPlace} (h : DataW.trod enc Try.prog w base spare held fuel 33 [v] = some x) :
    ∃ A n c l, v = .slice A n c ∧ n ≤ c ∧ c ≤ maxLen ∧ l.length = n ∧ (∀ r ∈ l, RecD.Fits r) ∧ Reads w w.heap.size 4 A n (recsV l) := by
  rcases open_slice_fields Try.underlying33 Try.underlying37 (by kernel_rfl) (by kernel_rfl) h with rfl | ⟨a, len, cap, rfl, hl, hm, hi⟩
  · exact ⟨none, 0, 0, [], rfl, Nat.le_refl _, Nat.zero_le _, rfl, by simp, Reads.none_⟩
  · have each : ∀ i, i < len → ∃ r : RecD, r.Fits ∧ ∀ j (hj : j < 4), w.cell? (a.add (i * 4 + j)) = (recC r)[j]? := by
      intro i hil
      obtain ⟨n, hf⟩ := hi i hil
      obtain ⟨u0, y0, c0, t0⟩ := hf 0 _ rfl
      obtain ⟨u1, y1, c1, t1⟩ := hf 1 _ rfl
      obtain ⟨u2, y2, c2, t2⟩ := hf 2 _ rfl
      obtain ⟨u3, y3, c3, t3⟩ := hf 3 _ rfl
      obtain ⟨k, rfl, wk⟩ := open_num Try.underlying3 t0
      obtain ⟨c, rfl, wc⟩ := open_num Try.underlying3 t1
      obtain ⟨t, rfl, wt⟩ := open_num Try.underlying3 t2
      obtain ⟨o, rfl, wo⟩ := open_num Try.underlying3 t3
      refine ⟨⟨k, c, t, o⟩, ⟨bounds_i64 wk, bounds_i64 wc, bounds_i64 wt, bounds_i64 wo⟩, fun j hj => ?_⟩
      match j, hj with
      | 0, _ => exact c0
      | 1, _ => exact c1
      | 2, _ => exact c2
      | 3, _ => exact c3
    obtain ⟨l, hll, hp⟩ := list_of each
    refine ⟨some a, len, cap, l, rfl, hl, hm, hll, fun r hr => ?_, ⟨by rw [recsV_length, hll], fun hn => ⟨a, rfl, ?_, fun j u hu => ?_⟩⟩⟩
    · obtain ⟨i, hi', rfl⟩ := List.getElem_of_mem hr
      exact (hp i hi').1
    · have := (hp 0 (by omega)).2 0 (by omega)
      have h2 := World.block_lt_of_cell? w _ (this.trans (show (recC l[0])[0]? = some (.int .i64 l[0].k) from rfl))
      rwa [add_block] at h2
    · have hj : j < l.length * 4 := by rw [← recsV_length]; exact (List.getElem?_eq_some_iff.1 hu).1
      have e : j = j / 4 * 4 + j % 4 := by omega
      rw [e] at hu ⊢
      rw [recsV_get l (j / 4) (j % 4) (by omega) (by omega)] at hu
      rw [(hp (j / 4) (by omega)).2 (j % 4) (by omega)]
      exact hu
end
end Go.Proofs.Ytngdhpjbfcgloaa
