/- Turns that came in as an argument. -/
import Derived.Test.YtkfpmljlgpobjaaOpenS
import Derived.Test.YtkfpmljlgpobjaaTurnsD
namespace Go.Proofs.Ytkfpmljlgpobjaa
open Go.RowKit Go.ChangeShapes Go.WideShapes Go.Joins Go.Deep
set_option linter.unusedVariables false

section
variable {H : Type} {enc : TypeId × Value → H} {w : World} {base : Nat} {held : Bool}
theorem open_turns {fuel : Nat} {v : Value} {x : DataW H × List MemPlace} (h : DataW.trod enc Try.prog w base (fun _ => true) held fuel 55 [v] = some x) :
    ∃ A n c ls, v = .slice A n c ∧ TurnsIn w A n ls := by
  rcases open_slice_fields Try.underlying55 Try.underlying67 (by kernel_rfl) (by kernel_rfl) h with rfl | ⟨a, len, cap, rfl, hl, hm, hi⟩
  · exact ⟨none, 0, 0, [], rfl, Reads.none_, by simp, Nat.zero_le _⟩
  · have each : ∀ i, i < len → ∃ r : TurnD × Value, (I64 r.1.kind ∧ I64 r.1.n ∧ ∃ A' k c, r.2 = .slice A' k c ∧ k ≤ c ∧ c ≤ maxLen ∧ Reads w w.heap.size 1 A' k (bytesV r.1.data)) ∧ ∀ j (hj : j < 3), w.cell? (a.add (i * 3 + j)) = (turnC r)[j]? := by
      intro i hil
      obtain ⟨n, hf⟩ := hi i hil
      obtain ⟨u0, y0, c0, t0⟩ := hf 0 _ rfl
      obtain ⟨u1, y1, c1, t1⟩ := hf 1 _ rfl
      obtain ⟨u2, y2, c2, t2⟩ := hf 2 _ rfl
      obtain ⟨k, rfl, wk⟩ := open_num Try.underlying3 t0
      obtain ⟨z, rfl, wz⟩ := open_num Try.underlying3 t1
      obtain ⟨D, m, c, ds, rfl, hm, hc, hr, -⟩ := open_bytes Try.underlying33 Try.underlying5 (by kernel_rfl) t2
      refine ⟨(⟨k, z, ds⟩, .slice D m c), ⟨bounds_i64 wk, bounds_i64 wz, D, m, c, rfl, hm, hc, hr⟩, fun j hj => ?_⟩
      match j, hj with
      | 0, _ => exact c0
      | 1, _ => exact c1
      | 2, _ => exact c2
    obtain ⟨l, hll, hp⟩ := list_of each
    refine ⟨some a, len, cap, l, rfl, ⟨by rw [flat_length turnC_len, hll], fun hn => ⟨a, rfl, ?_, fun j u hu => ?_⟩⟩, fun r hr => ?_, Nat.le_trans hl hm⟩
    · have := (hp 0 (by omega)).2 0 (by omega)
      have h2 := World.block_lt_of_cell? w _ (this.trans (show (turnC l[0])[0]? = some (.int .i64 l[0].1.kind) from rfl))
      rwa [add_block] at h2
    · have hj : j < l.length * 3 := by rw [← flat_length turnC_len]; exact (List.getElem?_eq_some_iff.1 hu).1
      have e : j = j / 3 * 3 + j % 3 := by omega
      rw [e] at hu ⊢
      rw [flat_get turnC_len l (j / 3) (j % 3) (by omega) (by omega)] at hu
      rw [(hp (j / 3) (by omega)).2 (j % 3) (by omega)]
      exact hu
    · obtain ⟨i, hi', rfl⟩ := List.getElem_of_mem hr
      exact (hp i hi').1
end
end Go.Proofs.Ytkfpmljlgpobjaa
