/- A map[int]string of the call's own: what it holds, under which keys, and how many. Plain theorems. -/
import Derived.Test.YtikpdhkjkmbomaaRows
import Derived.Test.YtikpdhkjkmbomaaMem
import Derived.Test.YtikpdhkjkmbomaaStr
import Derived.Maps.Own
import Derived.Maps.OwnOps
import Derived.Maps.OwnSet
import Derived.Maps.Views
import Derived.Maps.Ext
import Derived.Maps.StringElems
namespace Go.Proofs.Ytikpdhkjkmbomaa
open Go.RowKit Go.Maps

abbrev BsI := List UInt8
theorem wfZ (a : Int) (h1 : -9223372036854775808 ≤ a) (h2 : a ≤ 9223372036854775807) : (Lit.int .i64 a).wf = true := by
  simp [Lit.wf, IntKind.min, IntKind.max, IntKind.signed, IntKind.bits]
  omega
theorem str_listI (l : BsI) : (str l).data.toList = l := by simp [str]
def updZ {α : Type} (f : Int → α) (o : Int) (v : α) : Int → α := fun x => if x = o then v else f x
theorem updZ_same {α : Type} (f : Int → α) (o : Int) (v : α) : updZ f o v o = v := by simp [updZ]
theorem updZ_other {α : Type} (f : Int → α) (o x : Int) (v : α) (h : x ≠ o) : updZ f o v x = f x := by simp [updZ, h]
/-- What a map as read says. -/
def SaysIS (D : DataW Unit) (f : Int → Option BsI) (s : Nat) : Prop :=
  (∀ o : Int, Maps.has D (.int .i64 o) = (f o).isSome ∧ D.atKey (.int .i64 o) (.lit (.string [])) = .lit (.string ((f o).getD []))) ∧ Maps.size D = s
/-- Block b is a map of s entries (at most n were put into it); f says what it holds. -/
def MapIS (w : World) (b n : Nat) (f : Int → Option BsI) (s : Nat) : Prop :=
  ∃ D : DataW Unit, w.ownsMap Try.prog 3 (plainElem Try.prog 9) b n D ∧ SaysIS D f s
theorem says_nil : SaysIS (.map []) (fun _ => none) 0 := ⟨fun _ => ⟨rfl, rfl⟩, rfl⟩
theorem MapIS.made (w : World) : MapIS (w.alloc (.map #[] 0)) w.heap.size 0 (fun _ => none) 0 := ⟨.map [], World.ownsMap_made w _ _ _, says_nil⟩
section
variable {w w' : World} {b n s : Nat} {f : Int → Option BsI}
theorem MapIS.lt (h : MapIS w b n f s) : b < w.heap.size := by obtain ⟨D, h, _⟩ := h; exact h.lt
theorem MapIS.mono {n' : Nat} (h : MapIS w b n f s) (hn : n ≤ n') : MapIS w b n' f s := by
  obtain ⟨D, h, hf⟩ := h
  exact ⟨D, h.mono hn, hf⟩
theorem MapIS.kept {row : Option Nat} (h : MapIS w b n f s) (hg : w.grownBy w' row) (hne : some b ≠ row) : MapIS w' b n f s := by
  obtain ⟨D, h, hf⟩ := h
  exact ⟨D, h.kept hg hne, hf⟩
theorem MapIS.far (h : MapIS w b n f s) {p : Addr} (hp : b ≠ p.block) (u : Value) : MapIS (w.setCell p u) b n f s := by
  obtain ⟨D, h, hf⟩ := h
  exact ⟨D, h.setCell hp u, hf⟩
theorem MapIS.alloc (h : MapIS w b n f s) (o : Obj) : MapIS (w.alloc o) b n f s := h.kept (World.grownBy_alloc w o none) (by simp)
theorem MapIS.ext (h : MapIS w b n f s) (hx : Ext w w') : MapIS w' b n f s := h.kept (row := none) ⟨hx.os, hx.tape, hx.output, hx.size, fun k hk _ => hx.block k hk⟩ (by simp)
set_option maxRecDepth 100000 in
theorem MapIS.look (h : MapIS w b n f s) (o : Int) (h1 : -9223372036854775808 ≤ o) (h2 : o ≤ 9223372036854775807) : (Instr.lookup 44 (.map (some b)) (.int .i64 o) false).run Try.prog w = .ok (.string (str ((f o).getD []))) w := by
  obtain ⟨D, h, hf, _⟩ := h
  obtain ⟨v, ps, hrun, hv⟩ := h.lookup (int_keyed Try.underlying3) Try.underlying44 (z := .string ⟨#[]⟩) (by kernel_rfl) (plainElem_string Try.underlying9 (s := ⟨#[]⟩) (Nat.zero_le _)) (keyOf_int_mk Try.underlying3 (wfZ o h1 h2))
  rw [show (DataW.lit (Lit.string (ByteArray.mk #[]).data.toList) : DataW Unit) = .lit (.string []) from rfl, (hf o).2] at hv
  obtain ⟨a, rfl, he, _⟩ := plainElem_string_inv Try.underlying9 hv
  injection he with he _
  injection he with he
  injection he with he
  rw [he, str_data]
  exact hrun
theorem says_put {D : DataW Unit} {o : Int} {v : BsI} (h : SaysIS D f s) (hm : IsMap D) (ht : Maps.size (D.put (.int .i64 o) (.lit (.string v))) = if Maps.has D (.int .i64 o) then Maps.size D else Maps.size D + 1) : SaysIS (D.put (.int .i64 o) (.lit (.string v))) (updZ f o (some v)) (if (f o).isSome then s else s + 1) := by
  obtain ⟨hf, hs⟩ := h
  refine ⟨fun x => ?_, by rw [ht, (hf o).1, hs]⟩
  by_cases hx : x = o
  · subst hx
    rw [has_put_same hm (by trivial), atKey_put_same hm (by trivial), updZ_same]
    exact ⟨rfl, rfl⟩
  · have hne : Lit.int .i64 x ≠ Lit.int .i64 o := fun e => hx (by injection e)
    rw [has_put_other hne, atKey_put_other hne, updZ_other _ _ _ _ hx]
    exact hf x
theorem MapIS.store (h : MapIS w b n f s) (hn : n < maxLen) (o : Int) (h1 : -9223372036854775808 ≤ o) (h2 : o ≤ 9223372036854775807) (v : BsI) (hv : v.length ≤ maxLen) :
    ∃ w', (Instr.mapUpdate 44 (.map (some b)) (.int .i64 o) (.string (str v))).run Try.prog w = .ok () w' ∧ MapIS w' b (n + 1) (updZ f o (some v)) (if (f o).isSome then s else s + 1) ∧ w.grownBy w' (some b) := by
  obtain ⟨D, h, hf⟩ := h
  obtain ⟨w', hrun, h5, h6⟩ := h.update (int_keyed Try.underlying3) Try.underlying44 hn (keyOf_int_mk Try.underlying3 (wfZ o h1 h2)) (plainElem_string Try.underlying9 (s := str v) (by rw [str_size]; exact hv))
  rw [str_listI] at h5
  exact ⟨w', hrun, ⟨_, h5, says_put hf h.isMap (size_put (h.tidy (int_keyed Try.underlying3)) _)⟩, h6⟩
theorem MapIS.drop (h : MapIS w b n f s) (o : Int) (h1 : -9223372036854775808 ≤ o) (h2 : o ≤ 9223372036854775807) (ty : TypeId) :
    ∃ w', (Builtin.delete_ #[44, 3] ty #[.map (some b), .int .i64 o]).run Try.prog w = .ok (.tuple #[]) w' ∧ MapIS w' b n (updZ f o none) (if (f o).isSome then s - 1 else s) ∧ w.grownBy w' (some b) := by
  obtain ⟨D, h, hf, hs⟩ := h
  obtain ⟨w', hrun, h5, h6⟩ := h.drop (int_keyed Try.underlying3) Try.underlying44 (keyOf_int_mk Try.underlying3 (wfZ o h1 h2)) ty
  refine ⟨w', hrun, ⟨_, h5, fun x => ?_, ?_⟩, h6.grown⟩
  · by_cases hx : x = o
    · subst hx
      rw [has_del_same, atKey_del_same, updZ_same]
      exact ⟨rfl, rfl⟩
    · have hne : Lit.int .i64 x ≠ Lit.int .i64 o := fun e => hx (by injection e)
      rw [has_del_other hne, atKey_del_other hne, updZ_other _ _ _ _ hx]
      exact hf x
  · have := size_del (k := .int .i64 o) (h.tidy (int_keyed Try.underlying3))
    rw [(hf o).1, hs] at this
    split at this
    · rw [if_pos (by assumption)]; omega
    · rw [if_neg (by assumption)]; omega
theorem MapIS.len (h : MapIS w b n f s) (ty : TypeId) : (Builtin.len_ #[44] ty #[.map (some b)]).run Try.prog w = .ok (.int .i64 (s : Int)) w := by
  obtain ⟨D, h, _, hs⟩ := h
  have := h.len Try.underlying44 ty
  rwa [hs] at this
theorem MapIS.size_le (h : MapIS w b n f s) : s ≤ n := by
  obtain ⟨D, h, _, hs⟩ := h
  have := h.size_le
  omega
end
end Go.Proofs.Ytikpdhkjkmbomaa
