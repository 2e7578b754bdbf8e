/- A map[string]bool of the call's own, by what it answers (a key that is not there answers false). Plain theorems. -/
import Derived.Test.YtljlniehbenefaaRows
import Derived.Test.YtljlniehbenefaaMem
import Derived.Test.YtljlniehbenefaaStr
import Derived.Maps.Own
import Derived.Maps.OwnOps
import Derived.Maps.OwnSet
import Derived.Maps.Views
import Derived.StringKeys
namespace Go.Proofs.Ytljlniehbenefaa
open Go.RowKit Go.Maps

theorem plainElem_boolI {H : Type} {P : Program} {e : TypeId} (he : P.underlying e = some .bool) {v : Value} {z : DataW H × List MemPlace} (h : plainElem P e v = some z) : ∃ a, v = .bool a ∧ z = (.lit (.bool a), []) := by
  unfold plainElem at h
  rw [he] at h
  cases v <;> simp at h
  exact ⟨_, rfl, h.symm⟩
abbrev Bs := List UInt8
theorem str_list (l : Bs) : (str l).data.toList = l := by simp [str]
def updS {α : Type} (f : Bs → α) (o : Bs) (v : α) : Bs → α := fun x => if x = o then v else f x
theorem updS_same {α : Type} (f : Bs → α) (o : Bs) (v : α) : updS f o v o = v := by simp [updS]
theorem updS_other {α : Type} (f : Bs → α) (o x : Bs) (v : α) (h : x ≠ o) : updS f o v x = f x := by simp [updS, h]
def MapSB (w : World) (b n : Nat) (f : Bs → Bool) : Prop :=
  ∃ D : DataW Unit, w.ownsMap Try.prog 9 (plainElem Try.prog 4) b n D ∧ ∀ o : Bs, D.atKey (.string o) (.lit (.bool false)) = .lit (.bool (f o))
theorem MapSB.made (w : World) : MapSB (w.alloc (.map #[] 0)) w.heap.size 0 (fun _ => false) := ⟨.map [], World.ownsMap_made w _ _ _, fun _ => rfl⟩
section
variable {w w' : World} {b n : Nat} {f : Bs → Bool}
theorem MapSB.lt (h : MapSB w b n f) : b < w.heap.size := by obtain ⟨D, h, _⟩ := h; exact h.lt
theorem MapSB.mono {n' : Nat} (h : MapSB w b n f) (hn : n ≤ n') : MapSB w b n' f := by
  obtain ⟨D, h, hf⟩ := h
  exact ⟨D, h.mono hn, hf⟩
theorem MapSB.kept {row : Option Nat} (h : MapSB w b n f) (hg : w.grownBy w' row) (hne : some b ≠ row) : MapSB w' b n f := by
  obtain ⟨D, h, hf⟩ := h
  exact ⟨D, h.kept hg hne, hf⟩
theorem MapSB.far (h : MapSB w b n f) {p : Addr} (hp : b ≠ p.block) (u : Value) : MapSB (w.setCell p u) b n f := by
  obtain ⟨D, h, hf⟩ := h
  exact ⟨D, h.setCell hp u, hf⟩
theorem MapSB.alloc (h : MapSB w b n f) (o : Obj) : MapSB (w.alloc o) b n f := h.kept (World.grownBy_alloc w o none) (by simp)
theorem MapSB.ext (h : MapSB w b n f) (hx : Ext w w') : MapSB w' b n f := h.kept (row := none) ⟨hx.os, hx.tape, hx.output, hx.size, fun k hk _ => hx.block k hk⟩ (by simp)
set_option maxRecDepth 100000 in
theorem MapSB.look (h : MapSB w b n f) (o : Bs) (ho : o.length ≤ maxLen) : (Instr.lookup 46 (.map (some b)) (.string (str o)) false).run Try.prog w = .ok (.bool (f o)) w := by
  obtain ⟨D, h, hf⟩ := h
  obtain ⟨v, ps, hrun, hv⟩ := h.lookup (string_keyed Try.underlying9) Try.underlying46 (z := .bool false) (by kernel_rfl) (plainElem_bool Try.underlying4 false) (WideMaps.keyOf_string_mk Try.underlying9 (s := str o) (by rw [str_size]; exact ho))
  rw [str_list, hf o] at hv
  obtain ⟨a, rfl, he⟩ := plainElem_boolI Try.underlying4 hv
  injection he with he _
  injection he with he
  injection he with he
  rw [he]
  exact hrun
theorem MapSB.store (h : MapSB w b n f) (hn : n < maxLen) (o : Bs) (ho : o.length ≤ maxLen) (v : Bool) :
    ∃ w', (Instr.mapUpdate 46 (.map (some b)) (.string (str o)) (.bool v)).run Try.prog w = .ok () w' ∧ MapSB w' b (n + 1) (updS f o v) ∧ w.grownBy w' (some b) := by
  obtain ⟨D, h, hf⟩ := h
  obtain ⟨w', hrun, h5, h6⟩ := h.update (string_keyed Try.underlying9) Try.underlying46 hn (WideMaps.keyOf_string_mk Try.underlying9 (s := str o) (by rw [str_size]; exact ho)) (plainElem_bool Try.underlying4 v)
  rw [str_list] at h5
  refine ⟨w', hrun, ⟨_, h5, fun x => ?_⟩, h6⟩
  by_cases hx : x = o
  · subst hx
    rw [atKey_put_same h.isMap (by trivial), updS_same]
  · have hne : Lit.string x ≠ Lit.string o := fun e => hx (by injection e)
    rw [atKey_put_other hne, updS_other _ _ _ _ hx]
    exact hf x
end
end Go.Proofs.Ytljlniehbenefaa
