/- How much a line holds at most. Plain laws; the deeds of one call as one contract each. -/
import Derived.Test.YtacfffegmmdgfaaDeedW
namespace Go.Proofs.Ytacfffegmmdgfaa
open Go.RowKit
set_option linter.unusedVariables false

structure Fits (d : LineD) (k : Nat) : Prop where
  y : d.y.length ≤ 64
  p : ∀ i, i < 2 → (d.p i).length ≤ 50 * k
  g : ∀ i, i < 2 → (d.g i).length ≤ 64 * k
theorem lay_le {y : List (Nat × SegD)} {i : Nat} {l : List SegD} (h : y.length ≤ 64) : (lay y i l).length ≤ 64 := by
  unfold lay
  rw [List.length_append, List.length_take]
  omega
theorem fits_send {d : LineD} {k : Nat} (h : Fits d k) : Fits (sendP d) k := ⟨lay_le (lay_le h.y), h.p, h.g⟩
theorem fits_done {d : LineD} {k : Nat} (h : Fits d k) (hok : ∀ i, i < 2 → (d.e i).Ok) (x : DeedD) (hx : x.data.length ≤ 50) : Fits (doneP d x) (k + 1) := by
  have base : Fits d (k + 1) := ⟨h.y, fun i hi => by have := h.p i hi; omega, fun i hi => by have := h.g i hi; omega⟩
  unfold doneP
  split
  · rename_i hc
    have hi : x.end_.toNat < 2 := by have := hc.2.2; omega
    unfold ownP
    split
    · refine ⟨h.y, fun j hj => ?_, base.g⟩
      have h1 := h.p j hj
      simp only [putI, upd]
      split
      · rename_i e
        rw [← e, List.length_append, List.length_take]
        omega
      · omega
    split
    · unfold takeI
      split
      · exact base
      · refine ⟨h.y, base.p, fun j hj => ?_⟩
        have h1 := h.g j hj
        have h2 := (hok j hj).inn
        simp only [upd]
        split
        · rename_i e
          rw [← e, List.length_append, List.length_take]
          omega
        · omega
    split <;> exact ⟨h.y, base.p, base.g⟩
  split
  · unfold deedP
    have hh : ∀ n, Fits (heardP d n) (k + 1) := fun n => ⟨by rw [(heard_y d n).1]; exact h.y, by rw [(heard_y d n).2.1]; exact base.p, by rw [(heard_y d n).2.2]; exact base.g⟩
    have hl : ∀ {d : LineD}, Fits d (k + 1) → ∀ n, Fits (loseP d n) (k + 1) := fun h n => ⟨Nat.le_trans (List.length_eraseIdx_le _ _) h.y, h.p, h.g⟩
    split
    · unfold copyP
      split
      · refine ⟨?_, base.p, base.g⟩
        show (d.y ++ ((d.y)[x.n.toNat]?).toList).length ≤ 64
        rw [List.length_append]
        have : ((d.y)[x.n.toNat]?).toList.length ≤ 1 := by cases (d.y)[x.n.toNat]? <;> simp
        omega
      · exact base
    split
    · exact hl (hh _) _
    · exact hl base _
  split
  · exact ⟨h.y, base.p, base.g⟩
  · exact base
theorem own_any (w0 : World) (gl : Nat) (b : Nat → Nat) (d : LineD) (w : World) (h : LineAt w0 gl b d w) (k e n : Int) (D : Option Addr) (m c : Nat) (ds : List UInt8) (hk : 1 ≤ k ∧ k ≤ 3) (he : e = 0 ∨ e = 1) (hn : 0 ≤ n ∧ n ≤ 256) (hds : Reads w0 w0.heap.size 1 D m (bytesV ds)) (hmc : m ≤ c) (hm : m ≤ 256)
    (hp : ∀ i, i < 2 → (d.p i).length ≤ 100000) (hg : ∀ i, i < 2 → (d.g i).length ≤ 100000) :
    Calls Try.prog 15 #[.pointer (some ⟨gl, 0, none⟩), .agg #[.int .i64 k, .int .i64 e, .int .i64 n, .slice D m c]] w fun r w' => r = .returned (.tuple #[]) ∧ LineAt w0 gl b (ownP d e.toNat k n.toNat ds) w' := by
  have hk3 : k = 1 ∨ k = 2 ∨ k = 3 := by omega
  obtain ⟨z, rfl⟩ : ∃ z : Nat, n = (z : Int) := ⟨n.toNat, by omega⟩
  have hz : z ≤ 256 := by omega
  rcases hk3 with rfl | rfl | rfl <;> rcases he with rfl | rfl
  · exact own_put0 w0 gl b d w h z D m c ds hds hmc hm (hp 0 (by omega))
  · exact own_put1 w0 gl b d w h z D m c ds hds hmc hm (hp 1 (by omega))
  · exact own_take0 w0 gl b d w h z D m c ds hz (hg 0 (by omega))
  · exact own_take1 w0 gl b d w h z D m c ds hz (hg 1 (by omega))
  · exact own_shut0 w0 gl b d w h z D m c ds
  · exact own_shut1 w0 gl b d w h z D m c ds
theorem deed_any (w0 : World) (gl : Nat) (b : Nat → Nat) (d : LineD) (w : World) (h : LineAt w0 gl b d w) (k e : Int) (n : Nat) (hk : 4 ≤ k ∧ k ≤ 6) (hn : n < d.y.length) (hy : d.y.length ≤ 64) (D : Option Addr) (m c : Nat) :
    Calls Try.prog 16 #[.pointer (some ⟨gl, 0, none⟩), .agg #[.int .i64 k, .int .i64 e, .int .i64 n, .slice D m c]] w fun r w' => r = .returned (.tuple #[]) ∧ LineAt w0 gl b (deedP d k n) w' := by
  have hk3 : k = 4 ∨ k = 5 ∨ k = 6 := by omega
  rcases hk3 with rfl | rfl | rfl
  · have hto : ∀ x ∈ d.y, x.1 < 2 := by
      obtain ⟨L, h, _⟩ := h
      exact h.dst
    have hx : (d.y)[n]? = some (d.y)[n] := List.getElem?_eq_getElem hn
    rcases lt2 (hto _ (List.getElem_mem hn)) with hj | hj
    · exact deed_come0 w0 gl b d w h e n hn hy D m c (fun x hx' => by rw [hx] at hx'; injection hx' with hx'; rw [← hx']; exact hj)
    · exact deed_come1 w0 gl b d w h e n hn hy D m c (fun x hx' => by rw [hx] at hx'; injection hx' with hx'; rw [← hx']; exact hj)
  · exact deed_lose w0 gl b d w h e n hn hy D m c
  · exact deed_copy w0 gl b d w h e n hn hy D m c
/-- A tick at end i. -/
theorem tick_line (w0 : World) (gl : Nat) (b : Nat → Nat) (d : LineD) (w : World) (i : Nat) (hi : i < 2) (h : LineAt w0 gl b d w) :
    Calls Try.prog 17 #[.pointer (some ⟨b i, 0, none⟩)] w fun r w' => r = .returned (.tuple #[]) ∧ LineAt w0 gl b (tickL d i) w' := by
  obtain ⟨L, h, rfl⟩ := h
  refine (tick_any w (L.b i) (d.e i) (L.vo i) (L.vi i) (h.end_ i hi).box (h.ok i hi)).mono ?_
  rintro r w' ⟨rfl, hb, hg⟩
  obtain ⟨k1, k2⟩ := tick_ok (h.ok i hi) (h.live i hi)
  obtain ⟨L', h1, h2, -⟩ := h.endOp hi k1 k2 (EndOp.of_grown (h.end_ i hi) hg hb (tick_same _).1 (tick_same _).2)
  exact ⟨rfl, L', h1, h2⟩
theorem LineAt.ptrs {w0 w : World} {gl : Nat} {b : Nat → Nat} {d : LineD} (h : LineAt w0 gl b d w) : w.cell? ⟨gl, 0, none⟩ = some (.pointer (some ⟨b 0, 0, none⟩)) ∧ w.cell? ⟨gl, 1, none⟩ = some (.pointer (some ⟨b 1, 0, none⟩)) := by
  obtain ⟨L, h, rfl⟩ := h
  exact ⟨h.box.cell 0, h.box.cell 1⟩
theorem LineAt.way {w0 w : World} {gl : Nat} {b : Nat → Nat} {d : LineD} (h : LineAt w0 gl b d w) : ∃ A c, w.cell? ⟨gl, 10, none⟩ = some (.slice A d.y.length c) := by
  obtain ⟨L, h, rfl⟩ := h
  obtain ⟨A, c, hv, -⟩ := own_form h.way
  exact ⟨A, c, by rw [← hv]; exact h.box.cell 10⟩
theorem LineAt.oks {w0 w : World} {gl : Nat} {b : Nat → Nat} {d : LineD} (h : LineAt w0 gl b d w) : (∀ i, i < 2 → (d.e i).Ok) ∧ Ext w0 w := by
  obtain ⟨L, h, rfl⟩ := h
  exact ⟨h.ok, h.ext⟩
def deedC (x : DeedD × Value) : List Value := [.int .i64 x.1.kind, .int .i64 x.1.end_, .int .i64 x.1.n, x.2]
theorem deedC_len (x : DeedD × Value) : (deedC x).length = 4 := rfl
/-- Deeds that a call is handed. -/
structure DeedsIn (w : World) (B : Nat) (A : Option Addr) (n : Nat) (ls : List (DeedD × Value)) : Prop where
  row : Reads w B 4 A n (ls.flatMap deedC)
  base : B ≤ w.heap.size
  each : ∀ x ∈ ls, (1 ≤ x.1.kind ∧ x.1.kind ≤ 7) ∧ (x.1.end_ = 0 ∨ x.1.end_ = 1) ∧ (0 ≤ x.1.n ∧ x.1.n ≤ 256) ∧ x.1.data.length ≤ 50 ∧ ∃ A' k c B', x.2 = .slice A' k c ∧ k ≤ c ∧ c ≤ maxLen ∧ B' ≤ w.heap.size ∧ Reads w B' 1 A' k (bytesV x.1.data)
end Go.Proofs.Ytacfffegmmdgfaa
