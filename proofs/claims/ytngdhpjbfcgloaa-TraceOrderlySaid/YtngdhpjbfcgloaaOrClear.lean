/- clear on edges. -/
import Derived.Test.YtngdhpjbfcgloaaOrClone
import Derived.Test.YtngdhpjbfcgloaaOrDel
namespace Go.Proofs.Ytngdhpjbfcgloaa
open Go.RowKit Go.Lib
set_option linter.unusedVariables false

theorem run_clear_edges (w : World) (ty : TypeId) (b o n c : Nat) (hn : 0 < n)
    (hc : ∀ j, j < n * 2 → (w.cell? ⟨b, o + j, none⟩).isSome = true) (hf : ∀ j, j < n * 2 → w.frozen? ⟨b, o + j, none⟩ = false) :
    (Builtin.clear_ #[22] ty #[.slice (some ⟨b, o, none⟩) n c]).run Try.prog w = .ok (.tuple #[]) (w.setCells b o (List.replicate (n * 2) (.int .i64 0))) := by
  have hv : ∀ w, (zeroValue 24).run Try.prog w = .ok (.agg #[.int .i64 0, .int .i64 0]) w := fun _ => by kernel_rfl
  have hzc : (Builtin.zeroCells (Value.cells (.agg #[.int .i64 0, .int .i64 0])) n).toList = List.replicate (n * 2) (.int .i64 0) := by
    have e : Value.cells (.agg #[.int .i64 0, .int .i64 0]) = #[.int .i64 0, .int .i64 0] := rfl
    rw [e]
    simp [Builtin.zeroCells]
    apply List.ext_getElem
    · simp
    · intro i h1 h2
      have h3 : i % 2 = 0 ∨ i % 2 = 1 := by omega
      rcases h3 with h3 | h3 <;> simp [h3]
  have hst := run_storeCells_cells (P := Try.prog) b o (List.replicate (n * 2) (.int .i64 0)) 0 w (by simpa using hc) (by simpa using hf) (by intro v hv'; rw [List.eq_of_mem_replicate hv']; rfl)
  simp only [Nat.add_zero] at hst
  obtain ⟨m, rfl⟩ : ∃ m, n = m + 1 := ⟨n - 1, by omega⟩
  simp [Builtin.clear_, run_underlying Try.underlying22, hv, hzc, hst]
/-- A row whose tail has been written over, cut ahead of the tail. -/
theorem own_tail {w : World} {base g n c i : Nat} {e : TypeId} {E : List EdI} {vs : List Value} (h : w.ownsRow base e 2 (.slice (some ⟨g, 0, none⟩) n c) n (edV E)) (hi : i ≤ n) (hvs : i * 2 + vs.length ≤ c * 2) :
    (w.setCells g (i * 2) vs).ownsRow base e 2 (.slice (some ⟨g, 0, none⟩) i c) i (edV (E.take i)) := by
  have hl : E.length = n := by have := h.1; rw [edV_len] at this; omega
  rcases h.2 with ⟨e0, _⟩ | ⟨g', cap', cur, e0, hb, hg, hn, hm, hs, ht⟩
  · cases e0
  · injection e0 with e1 _ e3
    injection e1 with e1
    injection e1 with e1
    subst e1; subst e3
    have hb' : Blk w g e cur := hg
    have hb2 := Blk.sets vs (i * 2) hb'
    refine ⟨by rw [edV_len, List.length_take]; omega, .inr ⟨g, c, _, rfl, hb, hb2, by omega, hm, by rw [over_size]; exact hs, ?_⟩⟩
    rw [over_list vs (i * 2) cur (by omega)]
    have hlen : i * 2 ≤ cur.toList.length := by simp; omega
    rw [List.append_assoc, List.take_append_of_le_length (by simp; omega), List.take_take, Nat.min_self]
    have h1 : cur.toList.take (i * 2) = (edV E).take (i * 2) := by rw [← ht, List.take_take, Nat.min_eq_left (by omega)]
    rw [h1]
    have key : ∀ (l : List EdI) (k : Nat), (edV l).take (k * 2) = edV (l.take k) := by
      intro l
      induction l with
      | nil => intro k; simp [edV]
      | cons x l ih =>
        intro k
        cases k with
        | zero => simp [edV]
        | succ k =>
          have e0 : edV (x :: l) = .int .i64 x.1 :: .int .i64 x.2 :: edV l := rfl
          have e1 : (k + 1) * 2 = k * 2 + 1 + 1 := by omega
          rw [e0, e1, List.take_succ_cons, List.take_succ_cons, ih k]
          rfl
    exact key E i
end Go.Proofs.Ytngdhpjbfcgloaa
