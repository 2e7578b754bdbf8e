/- Lists of raw parts that came in. -/
import Derived.Test.YtljlniehbenefaaDoorOpenI
import Derived.Test.YtljlniehbenefaaDoorBdObjs
namespace Go.Proofs.YtljlniehbenefaaDoor
open Go.RowKit Go.ChangeShapes Go.WideShapes Go.Joins Go.Deep
set_option linter.unusedVariables false

section
variable {H : Type} {enc : TypeId × Value → H} {w : World} {base : Nat} {held : Bool}
theorem open_u32V {P : Program} {t e : TypeId} {fuel : Nat} {v : Value} {x : DataW H × List MemPlace} (ht : P.underlying t = some (.slice e)) (he : P.underlying e = some (.int .u32)) (hC : P.cellsOf e = 1)
    (h : DataW.trod enc P w base (fun _ => true) held fuel t [v] = some x) : ∃ A n c l, v = .slice A n c ∧ n ≤ c ∧ c ≤ maxLen ∧ Reads w w.heap.size 1 A n (codeV l) ∧ (∀ x ∈ l, x < 4294967296) ∧ (A = none → n = 0) := by
  rcases open_ints ht he hC h with ⟨hcs, _⟩ | ⟨x, l, c, zs, hcs, _, hl, hm, hz, _, hcell, hwz⟩
  · simp at hcs
    exact ⟨none, 0, 0, [], hcs, Nat.le_refl _, Nat.zero_le _, Reads.none_, by simp, fun _ => rfl⟩
  · simp at hcs
    have hz' : zs.length = c := by simpa using hz
    refine ⟨some x, l, c, (zs.take l).map Int.toNat, hcs, hl, hm, ⟨by simp [codeV]; omega, fun hn => ⟨x, rfl, ?_, fun j u hu => ?_⟩⟩, fun y hy => ?_, fun h => by cases h⟩
    · have := World.block_lt_of_cell? w _ (hcell 0 (by omega))
      rwa [add_block] at this
    · have hj : j < l := by
        have := (List.getElem?_eq_some_iff.1 hu).1
        simp [codeV] at this
        omega
      have hjz : j < zs.length := by omega
      rw [hcell j hjz]
      have e1 : zs.getD j 0 = zs[j] := by simp [List.getD_eq_getElem?_getD, hjz]
      have hb := bounds_u32 (hwz zs[j] (List.getElem_mem hjz))
      rw [e1]
      simp [codeV, hj, hjz] at hu
      rw [← hu, Int.max_eq_left hb.1]
    · obtain ⟨z, hz, rfl⟩ := List.mem_map.1 hy
      have hb := bounds_u32 (hwz z (List.mem_of_mem_take hz))
      omega
theorem open_parts {fuel : Nat} {v : Value} {x : DataW H × List MemPlace} (h : DataW.trod enc Tryd.prog w base (fun _ => true) held fuel 22 [v] = some x) :
    ∃ A n c ls, v = .slice A n c ∧ n ≤ c ∧ PartsRd w A n ls := by
  rcases open_slice_fields Tryd.underlying22 Tryd.underlying76 (by kernel_rfl) (by kernel_rfl) h with rfl | ⟨a, len, cap, rfl, hl, hm, hi⟩
  · exact ⟨none, 0, 0, [], rfl, Nat.le_refl _, Reads.none_, (fun r hr => by cases hr), Nat.zero_le _⟩
  · have each : ∀ i, i < len → ∃ r : RawP, PartRd w r.v r.code r.data r.nms r.nds ∧ ∀ j (hj : j < 4), w.cell? (a.add (i * 4 + j)) = (rawC r)[j]? := by
      intro i hil
      obtain ⟨n, hf⟩ := hi i hil
      obtain ⟨u0, y0, c0, t0⟩ := hf 0 _ rfl
      obtain ⟨u1, y1, c1, t1⟩ := hf 1 _ rfl
      obtain ⟨u2, y2, c2, t2⟩ := hf 2 _ rfl
      obtain ⟨u3, y3, c3, t3⟩ := hf 3 _ rfl
      obtain ⟨A1, n1, k1, code, rfl, p1, p2, p3, p4, p5⟩ := open_u32V Tryd.underlying32 Tryd.underlying31 (by kernel_rfl) t0
      obtain ⟨A2, n2, k2, data, rfl, q1, q2, q3, q4⟩ := open_bytes Tryd.underlying36 Tryd.underlying5 (by kernel_rfl) t1
      obtain ⟨A3, n3, k3, nms, rfl, r1, r2, r3, r4⟩ := open_intsV Tryd.underlying74 Tryd.underlying3 (by kernel_rfl) t2
      obtain ⟨A4, n4, k4, nds, rfl, s1, s2, s3, s4⟩ := open_intsV Tryd.underlying74 Tryd.underlying3 (by kernel_rfl) t3
      refine ⟨⟨⟨A1, n1, k1, A2, n2, k2, A3, n3, k3, A4, n4, k4⟩, code, data, nms, nds⟩, ⟨p3, q3, r3, s3, ⟨p1, p2, p5⟩, ⟨q1, q2, fun h => (q4 h).1⟩, Nat.le_trans r1 r2, Nat.le_trans s1 s2, p4, r4, s4⟩, fun j hj => ?_⟩
      match j, hj with
      | 0, _ => exact c0
      | 1, _ => exact c1
      | 2, _ => exact c2
      | 3, _ => exact c3
    obtain ⟨l, hll, hp⟩ := list_of each
    refine ⟨some a, len, cap, l, rfl, hl, ⟨by rw [flat_length rawC_len, hll], fun hn => ⟨a, rfl, ?_, fun j u hu => ?_⟩⟩, fun r hr => ?_, Nat.le_trans hl hm⟩
    · have := (hp 0 (by omega)).2 0 (by omega)
      have h2 := World.block_lt_of_cell? w _ (this.trans (show (rawC l[0])[0]? = some (.slice l[0].v.A1 l[0].v.n1 l[0].v.c1) from rfl))
      rwa [add_block] at h2
    · have hj : j < l.length * 4 := by rw [← flat_length rawC_len]; exact (List.getElem?_eq_some_iff.1 hu).1
      have e : j = j / 4 * 4 + j % 4 := by omega
      rw [e] at hu ⊢
      rw [flat_get rawC_len l (j / 4) (j % 4) (by omega) (by omega)] at hu
      rw [(hp (j / 4) (by omega)).2 (j % 4) (by omega)]
      exact hu
    · obtain ⟨i, hi', rfl⟩ := List.getElem_of_mem hr
      exact (hp i hi').1
end
end Go.Proofs.YtljlniehbenefaaDoor
