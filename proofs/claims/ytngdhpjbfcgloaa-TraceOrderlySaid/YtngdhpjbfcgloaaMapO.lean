/- A map[int]int of the call's own: what it holds, under which keys, and how many. Plain theorems. -/
import Derived.Test.YtngdhpjbfcgloaaRows
import Derived.Test.YtngdhpjbfcgloaaArr
import Derived.Maps.Own
import Derived.Maps.OwnOps
import Derived.Maps.OwnSet
import Derived.Maps.Views
namespace Go.Proofs.Ytngdhpjbfcgloaa
open Go.RowKit Go.Maps

theorem wfI (a : Int) (h1 : -9223372036854775808 ≤ a) (h2 : a ≤ 9223372036854775807) : (Lit.int .i64 a).wf = true := by
  simp [Lit.wf, IntKind.min, IntKind.max, IntKind.signed, IntKind.bits]
  omega
/-- Block b is a map of s entries (at most n were put into it); f says what it holds. -/
def MapO (w : World) (b n : Nat) (f : Nat → Option Int) (s : Nat) : Prop :=
  ∃ D : DataW Unit, w.ownsMap Try.prog 3 (plainElem Try.prog 3) b n D ∧ (∀ o : Nat, Maps.has D (.int .i64 (o : Int)) = (f o).isSome ∧ D.atKey (.int .i64 (o : Int)) (.lit (.int .i64 0)) = .lit (.int .i64 ((f o).getD 0))) ∧ Maps.size D = s
theorem MapO.made (w : World) : MapO (w.alloc (.map #[] 0)) w.heap.size 0 (fun _ => none) 0 := ⟨.map [], World.ownsMap_made w _ _ _, fun _ => ⟨rfl, rfl⟩, rfl⟩
section
variable {w w' : World} {b n s : Nat} {f : Nat → Option Int}
theorem MapO.lt (h : MapO w b n f s) : b < w.heap.size := by obtain ⟨D, h, _⟩ := h; exact h.lt
theorem MapO.mono {n' : Nat} (h : MapO w b n f s) (hn : n ≤ n') : MapO w b n' f s := by
  obtain ⟨D, h, hf⟩ := h
  exact ⟨D, h.mono hn, hf⟩
theorem MapO.kept {row : Option Nat} (h : MapO w b n f s) (hg : w.grownBy w' row) (hne : some b ≠ row) : MapO w' b n f s := by
  obtain ⟨D, h, hf⟩ := h
  exact ⟨D, h.kept hg hne, hf⟩
theorem MapO.alloc (h : MapO w b n f s) (o : Obj) : MapO (w.alloc o) b n f s := h.kept (World.grownBy_alloc w o none) (by simp)
theorem MapO.ext (h : MapO w b n f s) (hx : Ext w w') : MapO w' b n f s := h.kept (row := none) ⟨hx.os, hx.tape, hx.output, hx.size, fun k hk _ => hx.block k hk⟩ (by simp)
theorem MapO.look (h : MapO w b n f s) (o : Nat) (ho : o ≤ 1000000) : (Instr.lookup 34 (.map (some b)) (.int .i64 (o : Int)) true).run Try.prog w = .ok (.tuple #[.int .i64 ((f o).getD 0), .bool (f o).isSome]) w := by
  obtain ⟨D, h, hf, _⟩ := h
  obtain ⟨v, ps, hrun, hv⟩ := h.look_ok (int_keyed Try.underlying3) Try.underlying34 (z := .int .i64 0) (by kernel_rfl) (plainElem_int Try.underlying3 (wfI 0 (by omega) (by omega))) (keyOf_int_mk Try.underlying3 (wfI (o : Int) (by omega) (by omega)))
  rw [(hf o).2] at hv
  rw [(hf o).1] at hrun
  obtain ⟨a, rfl, he, _⟩ := plainElem_int_inv Try.underlying3 hv
  injection he with he _
  injection he with he
  injection he with _ he
  rw [he]
  exact hrun
theorem MapO.look1 (h : MapO w b n f s) (o : Nat) (ho : o ≤ 1000000) : (Instr.lookup 34 (.map (some b)) (.int .i64 (o : Int)) false).run Try.prog w = .ok (.int .i64 ((f o).getD 0)) w := by
  obtain ⟨D, h, hf, _⟩ := h
  obtain ⟨c, hrun, hat, _⟩ := h.lookup_int (int_keyed Try.underlying3) Try.underlying34 Try.underlying3 (by kernel_rfl) (keyOf_int_mk Try.underlying3 (wfI (o : Int) (by omega) (by omega)))
  rw [(hf o).2] at hat
  have : (f o).getD 0 = c := by injection hat with hat; injection hat
  rw [this]
  exact hrun
theorem MapO.store (h : MapO w b n f s) (hn : n < maxLen) (o : Nat) (ho : o ≤ 1000000) (v : Int) (h3 : -9223372036854775808 ≤ v) (h4 : v ≤ 9223372036854775807) :
    ∃ w', (Instr.mapUpdate 34 (.map (some b)) (.int .i64 (o : Int)) (.int .i64 v)).run Try.prog w = .ok () w' ∧ MapO w' b (n + 1) (updN f o (some v)) (if (f o).isSome then s else s + 1) ∧ w.grownBy w' (some b) := by
  obtain ⟨D, h, hf, hs⟩ := h
  obtain ⟨w', hrun, h5, h6⟩ := h.update (int_keyed Try.underlying3) Try.underlying34 hn (keyOf_int_mk Try.underlying3 (wfI (o : Int) (by omega) (by omega))) (plainElem_int Try.underlying3 (wfI v h3 h4))
  refine ⟨w', hrun, ⟨_, h5, fun x => ?_, ?_⟩, h6⟩
  · by_cases hx : x = o
    · subst hx
      rw [has_put_same h.isMap (by trivial), atKey_put_same h.isMap (by trivial), updN_same]
      exact ⟨rfl, rfl⟩
    · have hne : Lit.int .i64 (x : Int) ≠ Lit.int .i64 (o : Int) := fun e => hx (by injection e with _ e; omega)
      rw [has_put_other hne, atKey_put_other hne, updN_other _ _ _ _ hx]
      exact hf x
  · rw [size_put (h.tidy (int_keyed Try.underlying3)), (hf o).1, hs]
theorem MapO.drop (h : MapO w b n f s) (o : Nat) (ho : o ≤ 1000000) (ty : TypeId) :
    ∃ w', (Builtin.delete_ #[34, 3] ty #[.map (some b), .int .i64 (o : Int)]).run Try.prog w = .ok (.tuple #[]) w' ∧ MapO w' b n (updN f o none) (if (f o).isSome then s - 1 else s) ∧ w.grownBy w' (some b) := by
  obtain ⟨D, h, hf, hs⟩ := h
  obtain ⟨w', hrun, h5, h6⟩ := h.drop (int_keyed Try.underlying3) Try.underlying34 (keyOf_int_mk Try.underlying3 (wfI (o : Int) (by omega) (by omega))) ty
  refine ⟨w', hrun, ⟨_, h5, fun x => ?_, ?_⟩, h6.grown⟩
  · by_cases hx : x = o
    · subst hx
      rw [has_del_same, atKey_del_same, updN_same]
      exact ⟨rfl, rfl⟩
    · have hne : Lit.int .i64 (x : Int) ≠ Lit.int .i64 (o : Int) := fun e => hx (by injection e with _ e; omega)
      rw [has_del_other hne, atKey_del_other hne, updN_other _ _ _ _ hx]
      exact hf x
  · have := size_del (k := .int .i64 (o : Int)) (h.tidy (int_keyed Try.underlying3))
    rw [(hf o).1, hs] at this
    split at this
    · rw [if_pos (by assumption)]; omega
    · rw [if_neg (by assumption)]; omega
theorem MapO.len (h : MapO w b n f s) (ty : TypeId) : (Builtin.len_ #[34] ty #[.map (some b)]).run Try.prog w = .ok (.int .i64 (s : Int)) w := by
  obtain ⟨D, h, _, hs⟩ := h
  have := h.len Try.underlying34 ty
  rwa [hs] at this
theorem MapO.size_le (h : MapO w b n f s) : s ≤ n := by
  obtain ⟨D, h, _, hs⟩ := h
  have := h.size_le
  omega
end
end Go.Proofs.Ytngdhpjbfcgloaa
