/- Deeds that came in as an argument. -/
import Derived.Test.YtacfffegmmdgfaaOpenS
import Derived.Test.YtacfffegmmdgfaaDeedsW
namespace Go.Proofs.Ytacfffegmmdgfaa
open Go.RowKit Go.ChangeShapes Go.WideShapes Go.Joins Go.Deep
set_option linter.unusedVariables false

section
variable {H : Type} {enc : TypeId × Value → H} {w : World} {base : Nat} {held : Bool}
theorem open_raw {fuel : Nat} {v : Value} {x : DataW H × List MemPlace} (h : DataW.trod enc Try.prog w base (fun _ => true) held fuel 23 [v] = some x) :
    ∃ A n c ls, v = .slice A n c ∧ RawIn w A n ls := by
  rcases open_slice_fields Try.underlying23 Try.underlying35 (by kernel_rfl) (by kernel_rfl) h with rfl | ⟨a, len, cap, rfl, hl, hm, hi⟩
  · exact ⟨none, 0, 0, [], rfl, Reads.none_, by simp, Nat.zero_le _⟩
  · have each : ∀ i, i < len → ∃ r : DeedD × Value, (I64 r.1.kind ∧ I64 r.1.end_ ∧ I64 r.1.n ∧ ∃ A' k c, r.2 = .slice A' k c ∧ k ≤ c ∧ c ≤ maxLen ∧ Reads w w.heap.size 1 A' k (bytesV r.1.data)) ∧ ∀ j (hj : j < 4), w.cell? (a.add (i * 4 + j)) = (deedC r)[j]? := by
      intro i hil
      obtain ⟨n, hf⟩ := hi i hil
      obtain ⟨u0, y0, c0, t0⟩ := hf 0 _ rfl
      obtain ⟨u1, y1, c1, t1⟩ := hf 1 _ rfl
      obtain ⟨u2, y2, c2, t2⟩ := hf 2 _ rfl
      obtain ⟨u3, y3, c3, t3⟩ := hf 3 _ rfl
      obtain ⟨k, rfl, wk⟩ := open_num Try.underlying3 t0
      obtain ⟨z, rfl, wz⟩ := open_num Try.underlying3 t1
      obtain ⟨q, rfl, wq⟩ := open_num Try.underlying3 t2
      obtain ⟨D, m, c, ds, rfl, hm, hc, hr, -⟩ := open_bytes Try.underlying24 Try.underlying5 (by kernel_rfl) t3
      refine ⟨(⟨k, z, q, ds⟩, .slice D m c), ⟨bounds_i64 wk, bounds_i64 wz, bounds_i64 wq, D, m, c, rfl, hm, hc, hr⟩, fun j hj => ?_⟩
      match j, hj with
      | 0, _ => exact c0
      | 1, _ => exact c1
      | 2, _ => exact c2
      | 3, _ => exact c3
    obtain ⟨l, hll, hp⟩ := list_of each
    refine ⟨some a, len, cap, l, rfl, ⟨by rw [flat_length deedC_len, hll], fun hn => ⟨a, rfl, ?_, fun j u hu => ?_⟩⟩, fun r hr => ?_, Nat.le_trans hl hm⟩
    · have := (hp 0 (by omega)).2 0 (by omega)
      have h2 := World.block_lt_of_cell? w _ (this.trans (show (deedC l[0])[0]? = some (.int .i64 l[0].1.kind) from rfl))
      rwa [add_block] at h2
    · have hj : j < l.length * 4 := by rw [← flat_length deedC_len]; exact (List.getElem?_eq_some_iff.1 hu).1
      have e : j = j / 4 * 4 + j % 4 := by omega
      rw [e] at hu ⊢
      rw [flat_get deedC_len l (j / 4) (j % 4) (by omega) (by omega)] at hu
      rw [(hp (j / 4) (by omega)).2 (j % 4) (by omega)]
      exact hu
    · obtain ⟨i, hi', rfl⟩ := List.getElem_of_mem hr
      exact (hp i hi').1
end
end Go.Proofs.Ytacfffegmmdgfaa
