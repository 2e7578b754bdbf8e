/- A map[string]int of the call's own: what it holds, and under which keys. Plain theorems. -/
import Derived.Test.YtikbfmjhmjkkgaaDoorAmBase
import Derived.Maps.Own
import Derived.Maps.OwnOps
import Derived.Maps.OwnSet
import Derived.Maps.Views
import Derived.StringKeys
import Derived.Maps.Ext
namespace Go.Proofs.YtikbfmjhmjkkgaaDoor
open Go.RowKit Go.Maps

theorem wfIS (a : Int) (h1 : -9223372036854775808 ≤ a) (h2 : a ≤ 9223372036854775807) : (Lit.int .i64 a).wf = true := by
  simp [Lit.wf, IntKind.min, IntKind.max, IntKind.signed, IntKind.bits]
  omega
def MapSI (w : World) (b n : Nat) (f : Bs → Option Int) : Prop :=
  ∃ D : DataW Unit, w.ownsMap Tryd.prog 9 (plainElem Tryd.prog 3) b n D ∧ ∀ o : Bs, Maps.has D (.string o) = (f o).isSome ∧ D.atKey (.string o) (.lit (.int .i64 0)) = .lit (.int .i64 ((f o).getD 0))
theorem MapSI.made (w : World) : MapSI (w.alloc (.map #[] 0)) w.heap.size 0 (fun _ => none) := ⟨.map [], World.ownsMap_made w _ _ _, fun _ => ⟨rfl, rfl⟩⟩
section
variable {w w' : World} {b n : Nat} {f : Bs → Option Int}
theorem MapSI.lt (h : MapSI w b n f) : b < w.heap.size := by obtain ⟨D, h, _⟩ := h; exact h.lt
theorem MapSI.mono {n' : Nat} (h : MapSI w b n f) (hn : n ≤ n') : MapSI w b n' f := by
  obtain ⟨D, h, hf⟩ := h
  exact ⟨D, h.mono hn, hf⟩
theorem MapSI.kept {row : Option Nat} (h : MapSI w b n f) (hg : w.grownBy w' row) (hne : some b ≠ row) : MapSI w' b n f := by
  obtain ⟨D, h, hf⟩ := h
  exact ⟨D, h.kept hg hne, hf⟩
theorem MapSI.far (h : MapSI w b n f) {p : Addr} (hp : b ≠ p.block) (u : Value) : MapSI (w.setCell p u) b n f := by
  obtain ⟨D, h, hf⟩ := h
  exact ⟨D, h.setCell hp u, hf⟩
theorem MapSI.alloc (h : MapSI w b n f) (o : Obj) : MapSI (w.alloc o) b n f := h.kept (World.grownBy_alloc w o none) (by simp)
theorem MapSI.ext (h : MapSI w b n f) (hx : Ext w w') : MapSI w' b n f := h.kept (row := none) ⟨hx.os, hx.tape, hx.output, hx.size, fun k hk _ => hx.block k hk⟩ (by simp)
set_option maxRecDepth 100000 in
theorem MapSI.look (h : MapSI w b n f) (o : Bs) (ho : o.length ≤ maxLen) : (Instr.lookup 80 (.map (some b)) (.string (str o)) true).run Tryd.prog w = .ok (.tuple #[.int .i64 ((f o).getD 0), .bool (f o).isSome]) w := by
  obtain ⟨D, h, hf⟩ := h
  obtain ⟨v, ps, hrun, hv⟩ := h.look_ok (string_keyed Tryd.underlying9) Tryd.underlying80 (z := .int .i64 0) (by kernel_rfl) (plainElem_int Tryd.underlying3 (wfIS 0 (by omega) (by omega))) (WideMaps.keyOf_string_mk Tryd.underlying9 (s := str o) (by rw [str_size]; exact ho))
  rw [str_list] at hv hrun
  rw [(hf o).2] at hv
  rw [(hf o).1] at hrun
  obtain ⟨a, rfl, he, _⟩ := plainElem_int_inv Tryd.underlying3 hv
  injection he with he _
  injection he with he
  injection he with _ he
  rw [he]
  exact hrun
theorem MapSI.store (h : MapSI w b n f) (hn : n < maxLen) (o : Bs) (ho : o.length ≤ maxLen) (v : Int) (h3 : -9223372036854775808 ≤ v) (h4 : v ≤ 9223372036854775807) :
    ∃ w', (Instr.mapUpdate 80 (.map (some b)) (.string (str o)) (.int .i64 v)).run Tryd.prog w = .ok () w' ∧ MapSI w' b (n + 1) (updS f o (some v)) ∧ w.grownBy w' (some b) := by
  obtain ⟨D, h, hf⟩ := h
  obtain ⟨w', hrun, h5, h6⟩ := h.update (string_keyed Tryd.underlying9) Tryd.underlying80 hn (WideMaps.keyOf_string_mk Tryd.underlying9 (s := str o) (by rw [str_size]; exact ho)) (plainElem_int Tryd.underlying3 (wfIS v h3 h4))
  rw [str_list] at h5
  refine ⟨w', hrun, ⟨_, h5, fun x => ?_⟩, h6⟩
  by_cases hx : x = o
  · subst hx
    rw [has_put_same h.isMap (by trivial), atKey_put_same h.isMap (by trivial), updS_same]
    exact ⟨rfl, rfl⟩
  · have hne : Lit.string x ≠ Lit.string o := fun e => hx (by injection e)
    rw [has_put_other hne, atKey_put_other hne, updS_other _ _ _ _ hx]
    exact hf x
end
end Go.Proofs.YtikbfmjhmjkkgaaDoor
