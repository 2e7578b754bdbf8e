/- A map[int]int of the call's own, read as a function. Plain theorems. -/
import Derived.Test.YtngdhpjbfcgloaaRows
import Derived.Test.YtngdhpjbfcgloaaMem
import Derived.Maps.Own
import Derived.Maps.OwnOps
import Derived.Maps.OwnSet
import Derived.Maps.Views
namespace Go.Proofs.Ytngdhpjbfcgloaa
open Go.RowKit Go.Maps

theorem wf64 (a : Int) (h1 : -9223372036854775808 ≤ a) (h2 : a ≤ 9223372036854775807) : (Lit.int .i64 a).wf = true := by
  simp [Lit.wf, IntKind.min, IntKind.max, IntKind.signed, IntKind.bits]
  omega
/-- Block b is a map of at most n entries; the function f says what it holds. -/
def MapF (w : World) (b n : Nat) (f : Int → Int) : Prop := ∃ D : DataW Unit, w.ownsMap Try.prog 3 (plainElem Try.prog 3) b n D ∧ ∀ o, D.atKey (.int .i64 o) (.lit (.int .i64 0)) = .lit (.int .i64 (f o))
def updF (f : Int → Int) (o v : Int) : Int → Int := fun x => if x = o then v else f x
theorem MapF.made (w : World) : MapF (w.alloc (.map #[] 0)) w.heap.size 0 (fun _ => 0) := ⟨.map [], World.ownsMap_made w _ _ _, fun _ => rfl⟩
section
variable {w w' : World} {b n : Nat} {f : Int → Int}
theorem MapF.lt (h : MapF w b n f) : b < w.heap.size := by obtain ⟨D, h, _⟩ := h; exact h.lt
theorem MapF.mono {n' : Nat} (h : MapF w b n f) (hn : n ≤ n') : MapF w b n' f := by
  obtain ⟨D, h, hf⟩ := h
  exact ⟨D, h.mono hn, hf⟩
theorem MapF.kept {row : Option Nat} (h : MapF w b n f) (hg : w.grownBy w' row) (hne : some b ≠ row) : MapF w' b n f := by
  obtain ⟨D, h, hf⟩ := h
  exact ⟨D, h.kept hg hne, hf⟩
theorem MapF.alloc (h : MapF w b n f) (o : Obj) : MapF (w.alloc o) b n f := h.kept (World.grownBy_alloc w o none) (by simp)
theorem MapF.ext (h : MapF w b n f) (hx : Ext w w') : MapF w' b n f := h.kept (row := none) ⟨hx.os, hx.tape, hx.output, hx.size, fun k hk _ => hx.block k hk⟩ (by simp)
theorem MapF.look (h : MapF w b n f) (o : Int) (h1 : -9223372036854775808 ≤ o) (h2 : o ≤ 9223372036854775807) : (Instr.lookup 34 (.map (some b)) (.int .i64 o) false).run Try.prog w = .ok (.int .i64 (f o)) w := by
  obtain ⟨D, h, hf⟩ := h
  obtain ⟨c, hrun, hat, _⟩ := h.lookup_int (int_keyed Try.underlying3) Try.underlying34 Try.underlying3 (by kernel_rfl) (keyOf_int_mk Try.underlying3 (wf64 o h1 h2))
  rw [hf o] at hat
  have : f o = c := by injection hat with hat; injection hat
  rw [this]
  exact hrun
theorem MapF.store (h : MapF w b n f) (hn : n < maxLen) (o v : Int) (h1 : -9223372036854775808 ≤ o) (h2 : o ≤ 9223372036854775807) (h3 : -9223372036854775808 ≤ v) (h4 : v ≤ 9223372036854775807) :
    ∃ w', (Instr.mapUpdate 34 (.map (some b)) (.int .i64 o) (.int .i64 v)).run Try.prog w = .ok () w' ∧ MapF w' b (n + 1) (updF f o v) ∧ w.grownBy w' (some b) := by
  obtain ⟨D, h, hf⟩ := h
  obtain ⟨w', hrun, h5, h6⟩ := h.update (int_keyed Try.underlying3) Try.underlying34 hn (keyOf_int_mk Try.underlying3 (wf64 o h1 h2)) (plainElem_int Try.underlying3 (wf64 v h3 h4))
  refine ⟨w', hrun, ⟨_, h5, fun x => ?_⟩, h6⟩
  by_cases hx : x = o
  · subst hx
    rw [atKey_put_same h.isMap (by trivial)]
    simp [updF]
  · rw [atKey_put_other (fun e => hx (by injection e)), hf x]
    simp [updF, hx]
end
end Go.Proofs.Ytngdhpjbfcgloaa
