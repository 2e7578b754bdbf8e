/- A look-up answers alike where the map's block is alike. -/
import Derived.Test.YtngdhpjbfcgloaaOrMap
namespace Go.Proofs.Ytngdhpjbfcgloaa
open Go.RowKit Go.Maps
set_option linter.unusedVariables false
theorem look_det {w w' : World} {b n n' : Nat} {f f' : Int → List Int} {t : Int} {v v' : Value} (hm : MapG w b n f) (hm' : MapG w' b n' f') (hb : w'.heap[b]? = w.heap[b]?) (h1 : -9223372036854775808 ≤ t) (h2 : t ≤ 9223372036854775807)
    (h : (Instr.lookup 47 (.map (some b)) (.int .i64 t) false).run Try.prog w = .ok v w)
    (h' : (Instr.lookup 47 (.map (some b)) (.int .i64 t) false).run Try.prog w' = .ok v' w') : v = v' := by
  obtain ⟨D, ⟨es, clock, hb1, F, _⟩, _⟩ := hm
  obtain ⟨D', ⟨es', clock', hb1', F', _⟩, _⟩ := hm'
  obtain ⟨rfl, rfl⟩ : es = es' ∧ clock = clock' := by rw [hb, hb1] at hb1'; simpa using hb1'
  have hk : keyOf Try.prog 3 (.int .i64 t) = some (.int .i64 t) := keyOf_int_mk Try.underlying3 (wf64L t h1 h2)
  rcases Maps.fit_look false (int_keyed Try.underlying3) Try.underlying47 (by kernel_rfl : (zeroValue 26).run Try.prog w = .ok (.slice none 0 0) w) hb1 F hk with ⟨r1, k1, _⟩ | ⟨e0, y, m1, k1, r1, _⟩ <;>
  rcases Maps.fit_look false (int_keyed Try.underlying3) Try.underlying47 (by kernel_rfl : (zeroValue 26).run Try.prog w' = .ok (.slice none 0 0) w') hb1' F' hk with ⟨r2, k2, _⟩ | ⟨e2, y2, m2, k2, r2, _⟩
  · rw [r1] at h; rw [r2] at h'
    simp at h h'
    rw [← h, ← h']
  · exact absurd k2 (k1 e2 m2)
  · exact absurd k1 (k2 e0 m1)
  · rw [r1] at h; rw [r2] at h'
    simp at h h'
    rw [← h, ← h']
    obtain ⟨i, hi⟩ := List.mem_iff_getElem?.1 m1
    obtain ⟨j, hj⟩ := List.mem_iff_getElem?.1 m2
    by_cases hij : i = j
    · subst hij
      rw [hi] at hj
      injection hj with hj
      rw [hj]
    · exact absurd (k1.trans k2.symm) (by first | exact WideElems.other_key F hj hi hij | exact WideElems.other_key F hi hj (fun e => hij e.symm) | exact fun e => WideElems.other_key F hi hj hij e | exact fun e => WideElems.other_key F hi hj hij e.symm)
end Go.Proofs.Ytngdhpjbfcgloaa
