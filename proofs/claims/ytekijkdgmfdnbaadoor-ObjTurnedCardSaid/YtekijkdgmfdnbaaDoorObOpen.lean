/- A raw part that came in. -/
import Derived.Test.YtekijkdgmfdnbaaDoorOpenI
import Derived.Test.YtekijkdgmfdnbaaDoorObPart
import Derived.Test.YtekijkdgmfdnbaaDoorRows
namespace Go.Proofs.YtekijkdgmfdnbaaDoor
open Go.RowKit Go.ChangeShapes Go.WideShapes Go.Joins Go.Deep

section
variable {H : Type} {enc : TypeId × Value → H} {w : World} {base : Nat} {held : Bool}
theorem open_u32V {P : Program} {t e : TypeId} {fuel : Nat} {v : Value} {x : DataW H × List MemPlace} (ht : P.underlying t = some (.slice e)) (he : P.underlying e = some (.int .u32)) (hC : P.cellsOf e = 1)
    (h : DataW.trod enc P w base (fun _ => true) held fuel t [v] = some x) : ∃ A n c l, v = .slice A n c ∧ n ≤ c ∧ c ≤ maxLen ∧ Reads w w.heap.size 1 A n (codeV l) ∧ (∀ x ∈ l, x < 4294967296) ∧ (A = none → n = 0) := by
  rcases open_ints ht he hC h with ⟨hcs, _⟩ | ⟨x, l, c, zs, hcs, _, hl, hm, hz, _, hcell, hwz⟩
  · simp at hcs
    exact ⟨none, 0, 0, [], hcs, Nat.le_refl _, Nat.zero_le _, Reads.none_, by simp, fun _ => rfl⟩
  · simp at hcs
    have hz' : zs.length = c := by simpa using hz
    refine ⟨some x, l, c, (zs.take l).map Int.toNat, hcs, hl, hm, ⟨by simp [codeV]; omega, fun hn => ⟨x, rfl, ?_, fun j u hu => ?_⟩⟩, fun y hy => ?_, fun h => by cases h⟩
    · have := World.block_lt_of_cell? w _ (hcell 0 (by omega))
      rwa [add_block] at this
    · have hj : j < l := by
        have := (List.getElem?_eq_some_iff.1 hu).1
        simp [codeV] at this
        omega
      have hjz : j < zs.length := by omega
      rw [hcell j hjz]
      have e1 : zs.getD j 0 = zs[j] := by simp [List.getD_eq_getElem?_getD, hjz]
      have hb := bounds_u32 (hwz zs[j] (List.getElem_mem hjz))
      rw [e1]
      simp [codeV, hj, hjz] at hu
      rw [← hu, Int.max_eq_left hb.1]
    · obtain ⟨z, hz, rfl⟩ := List.mem_map.1 hy
      have hb := bounds_u32 (hwz z (List.mem_of_mem_take hz))
      omega
theorem open_part {r : Reach} {b0 : Nat} {v : Value} {d : DataW H} {p : List MemPlace} (hv : Value.okWide Tryd.prog w r b0 paT v) (h : DataW.Trod enc Tryd.prog w base (fun _ => true) held paT v d p) :
    ∃ A1 n1 c1 A2 n2 c2 A3 n3 c3 A4 n4 c4 code data nms nds, v = .agg #[.slice A1 n1 c1, .slice A2 n2 c2, .slice A3 n3 c3, .slice A4 n4 c4] ∧ PartRd w ⟨A1, n1, c1, A2, n2, c2, A3, n3, c3, A4, n4, c4⟩ code data nms nds := by
  obtain ⟨cs, rfl, hsz⟩ := okWide_struct Tryd.underlying26 hv
  obtain ⟨l⟩ := cs
  have hsz4 : l.length = 4 := by simpa using hsz.trans (by kernel_rfl : Tryd.prog.cellsOf 26 = 4)
  match l, hsz4 with
  | [c0, c1, c2, c3], _ =>
    obtain ⟨fuel, hf⟩ := h
    obtain ⟨xs, n, _, hx, _, hlen, hg⟩ := DataW.trod_struct Tryd.underlying26 hf
    have k0 : Tryd.prog.cellsOf 22 = 1 := by kernel_rfl
    have k1 : Tryd.prog.cellsOf 23 = 1 := by kernel_rfl
    have k2 : Tryd.prog.cellsOf 24 = 1 := by kernel_rfl
    match xs, hlen with
    | [y0, y1, y2, y3], _ =>
      have g0 : DataW.trod enc Tryd.prog w base (fun _ => true) held n 22 [c0] = some y0 := by simpa [Value.cells, k0] using hg 0 _ rfl
      have g1 : DataW.trod enc Tryd.prog w base (fun _ => true) held n 23 [c1] = some y1 := by simpa [Value.cells, k1] using hg 1 _ rfl
      have g2 : DataW.trod enc Tryd.prog w base (fun _ => true) held n 24 [c2] = some y2 := by simpa [Value.cells, k2] using hg 2 _ rfl
      have g3 : DataW.trod enc Tryd.prog w base (fun _ => true) held n 24 [c3] = some y3 := by simpa [Value.cells, k2] using hg 3 _ rfl
      obtain ⟨A1, n1, c1, code, rfl, p1, p2, p3, p4, p5⟩ := open_u32V Tryd.underlying22 Tryd.underlying47 (by kernel_rfl) g0
      obtain ⟨A2, n2, c2, data, rfl, q1, q2, q3, q4⟩ := open_bytes Tryd.underlying23 Tryd.underlying5 (by kernel_rfl) g1
      obtain ⟨A3, n3, c3, nms, rfl, r1, r2, r3, r4⟩ := open_intsV Tryd.underlying24 Tryd.underlying3 (by kernel_rfl) g2
      obtain ⟨A4, n4, c4, nds, rfl, s1, s2, s3, s4⟩ := open_intsV Tryd.underlying24 Tryd.underlying3 (by kernel_rfl) g3
      exact ⟨A1, n1, c1, A2, n2, c2, A3, n3, c3, A4, n4, c4, code, data, nms, nds, rfl, p3, q3, r3, s3, ⟨p1, p2, p5⟩, ⟨q1, q2, fun h => (q4 h).1⟩, Nat.le_trans r1 r2, Nat.le_trans s1 s2, p4, r4, s4⟩
end
end Go.Proofs.YtekijkdgmfdnbaaDoor
