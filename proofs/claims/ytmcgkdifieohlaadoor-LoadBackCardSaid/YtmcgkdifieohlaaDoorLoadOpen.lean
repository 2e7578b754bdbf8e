/- A raw program that came in. -/
import Derived.Test.YtmcgkdifieohlaaDoorOpenS
import Derived.Test.YtmcgkdifieohlaaDoorLoadPlain
import Derived.Test.YtmcgkdifieohlaaDoorRows
namespace Go.Proofs.YtmcgkdifieohlaaDoor
open Go.RowKit Go.ChangeShapes Go.WideShapes Go.Joins Go.Deep

section
variable {H : Type} {enc : TypeId × Value → H} {w : World} {base : Nat} {held : Bool}
theorem open_intsV {P : Program} {t e : TypeId} {fuel : Nat} {v : Value} {x : DataW H × List MemPlace} (ht : P.underlying t = some (.slice e)) (he : P.underlying e = some (.int .i64)) (hC : P.cellsOf e = 1)
    (h : DataW.trod enc P w base (fun _ => true) held fuel t [v] = some x) : ∃ A n c zs, v = .slice A n c ∧ n ≤ c ∧ c ≤ maxLen ∧ Reads w w.heap.size 1 A n (intsV zs) ∧ ∀ x ∈ zs, -9223372036854775808 ≤ x ∧ x ≤ 9223372036854775807 := by
  rcases open_ints ht he hC h with ⟨hcs, _⟩ | ⟨x, l, c, zs, hcs, _, hl, hm, hz, _, hcell, hwz⟩
  · simp at hcs
    exact ⟨none, 0, 0, [], hcs, Nat.le_refl _, Nat.zero_le _, Reads.none_, by simp⟩
  · simp at hcs
    have hz' : zs.length = c := by simpa using hz
    refine ⟨some x, l, c, zs.take l, hcs, hl, hm, ⟨by rw [intsV_length, List.length_take]; omega, fun hn => ⟨x, rfl, ?_, fun j u hu => ?_⟩⟩, fun y hy => bounds_i64 (hwz y (List.mem_of_mem_take hy))⟩
    · have := World.block_lt_of_cell? w _ (hcell 0 (by omega))
      rwa [add_block] at this
    · have hj : j < l := by
        have := (List.getElem?_eq_some_iff.1 hu).1
        rw [intsV_length, List.length_take] at this
        omega
      have hjz : j < zs.length := by omega
      rw [hcell j hjz]
      have e1 : zs.getD j 0 = zs[j] := by simp [List.getD_eq_getElem?_getD, hjz]
      rw [e1]
      simp [intsV, hj, hjz] at hu
      rw [← hu]
/-- A slice of slices of bytes. -/
theorem open_byteRows {P : Program} {t s e : TypeId} {fuel : Nat} {v : Value} {x : DataW H × List MemPlace} (ht : P.underlying t = some (.slice s)) (hs : P.underlying s = some (.slice e)) (he : P.underlying e = some (.int .u8)) (hC : P.cellsOf e = 1) (hS : P.cellsOf s = 1)
    (h : DataW.trod enc P w base (fun _ => true) held fuel t [v] = some x) : ∃ A n c, v = .slice A n c ∧ n ≤ c ∧ c ≤ maxLen ∧ RowsAt w A n := by
  rcases open_slice ht h with ⟨h0, _⟩ | ⟨a, len, cap, m, n, D, Pl, hcs, hb, hl, hm, hmm, hx, hi⟩
  · exact ⟨none, 0, 0, by simpa using h0, Nat.le_refl _, Nat.zero_le _, fun h => absurd h (by omega)⟩
  · refine ⟨some a, len, cap, by simpa using hcs, hl, hm, fun hn => ?_⟩
    have hcell : ∀ i, i < len → ∃ D m c ds, w.cell? (a.add i) = some (.slice D m c) ∧ m ≤ c ∧ c ≤ maxLen ∧ Reads w w.heap.size 1 D m (bytesV ds) := by
      intro i hil
      have him : i < m := by rw [hmm]; split <;> omega
      obtain ⟨cs', hc, ht'⟩ := hi i him
      rw [hS] at hc
      obtain ⟨_, hcl, hat⟩ := World.cells?_some hc
      have h0 := hat 0 (by omega)
      match cs', hcl with
      | [u], _ =>
        obtain ⟨D, k, c, ds, rfl, h1, h2, h3, _⟩ := open_bytes hs he hC ht'
        refine ⟨D, k, c, ds, ?_, h1, h2, h3⟩
        simpa [Addr.add] using h0
    obtain ⟨b, off, spot⟩ := a
    have hsp : spot = none := by
      obtain ⟨D, m, c, ds, h0, _⟩ := hcell 0 hn
      simpa [Addr.add] using World.cell?_spot h0
    subst hsp
    refine ⟨b, off, rfl, fun i hil => ?_⟩
    obtain ⟨D, m, c, ds, h0, h1⟩ := hcell i hil
    rw [add_lit] at h0
    exact ⟨D, m, c, ds, h0, h1⟩
theorem open_program {r : Reach} {b0 : Nat} {v : Value} {d : DataW H} {p : List MemPlace} (hv : Value.okWide Tryd.prog w r b0 25 v) (h : DataW.Trod enc Tryd.prog w base (fun _ => true) held 25 v d p) :
    ∃ A n c zs A' n' c' z, v = .agg #[.slice A n c, .slice A' n' c', .int .i64 z] ∧ Reads w w.heap.size 1 A n (intsV zs) ∧ (∀ x ∈ zs, -9223372036854775808 ≤ x ∧ x ≤ 9223372036854775807) ∧ n ≤ c ∧ c ≤ maxLen ∧ RowsAt w A' n' ∧ n' ≤ c' ∧ c' ≤ maxLen ∧ (-9223372036854775808 ≤ z ∧ z ≤ 9223372036854775807) := by
  obtain ⟨cs, rfl, hsz⟩ := okWide_struct Tryd.underlying25 hv
  obtain ⟨l⟩ := cs
  have hsz3 : l.length = 3 := by simpa using hsz.trans (by kernel_rfl : Tryd.prog.cellsOf 25 = 3)
  match l, hsz3 with
  | [c0, c1, c2], _ =>
    obtain ⟨fuel, hf⟩ := h
    obtain ⟨xs, n, _, hx, _, hlen, hg⟩ := DataW.trod_struct Tryd.underlying25 hf
    have k0 : Tryd.prog.cellsOf 22 = 1 := by kernel_rfl
    have k1 : Tryd.prog.cellsOf 23 = 1 := by kernel_rfl
    have k2 : Tryd.prog.cellsOf 3 = 1 := by kernel_rfl
    match xs, hlen with
    | [y0, y1, y2], _ =>
      have g0 : DataW.trod enc Tryd.prog w base (fun _ => true) held n 22 [c0] = some y0 := by simpa [Value.cells, k0] using hg 0 _ rfl
      have g1 : DataW.trod enc Tryd.prog w base (fun _ => true) held n 23 [c1] = some y1 := by simpa [Value.cells, k1] using hg 1 _ rfl
      have g2 : DataW.trod enc Tryd.prog w base (fun _ => true) held n 3 [c2] = some y2 := by simpa [Value.cells, k2] using hg 2 _ rfl
      obtain ⟨A, n0, c, zs, rfl, h1, h2, h3, h4⟩ := open_intsV Tryd.underlying22 Tryd.underlying3 k2 g0
      obtain ⟨A', n', c', rfl, h5, h6, h7⟩ := open_byteRows Tryd.underlying23 Tryd.underlying31 Tryd.underlying5 (by kernel_rfl) (by kernel_rfl) g1
      obtain ⟨z, rfl, wz⟩ := open_num Tryd.underlying3 g2
      exact ⟨A, n0, c, zs, A', n', c', z, rfl, h3, h4, h1, h2, h7, h5, h6, bounds_i64 wz⟩
end
end Go.Proofs.YtmcgkdifieohlaaDoor
