/- A map[int][]int of the call's own whose slices own their rows, read as a function. Plain theorems. -/
import Derived.Test.YtngdhpjbfcgloaaRows
import Derived.Test.YtngdhpjbfcgloaaMem
import Derived.Test.YtngdhpjbfcgloaaIntsV
import Derived.Maps.OwnRows
import Derived.Maps.GroupsBeside
import Derived.Maps.Own
import Derived.Maps.OwnOps
import Derived.Maps.OwnSet
import Derived.Maps.Views
namespace Go.Proofs.Ytngdhpjbfcgloaa
open Go.RowKit Go.Maps Go.ChangeShapes Go.ChangeMaps Go.MapKept
set_option linter.unusedVariables false

theorem wf64L (a : Int) (h1 : -9223372036854775808 ≤ a) (h2 : a ≤ 9223372036854775807) : (Lit.int .i64 a).wf = true := by
  simp [Lit.wf, IntKind.min, IntKind.max, IntKind.signed, IntKind.bits]
  omega
theorem lits_inj (a b : List Int) (h : lits (H := Unit) .i64 a = lits .i64 b) : a = b := by
  unfold lits at h
  induction a generalizing b with
  | nil => cases b with
    | nil => rfl
    | cons y b => simp at h
  | cons x a ih => cases b with
    | nil => simp at h
    | cons y b =>
      simp only [List.map_cons, List.cons.injEq] at h
      obtain ⟨h1, h2⟩ := h
      injection h1 with h1
      injection h1 with _ h1
      rw [h1, ih b h2]
/-- How a slice's numbers read. -/
def RdL (d : DataW Unit) (l : List Int) : Prop := (d = .nil ∧ l = []) ∨ d = .slice (lits .i64 l) []
theorem RdL.unique {d : DataW Unit} {l l' : List Int} (h : RdL d l) (h' : RdL d l') : l = l' := by
  rcases h with ⟨h1, h2⟩ | h1 <;> rcases h' with ⟨h3, h4⟩ | h3
  · rw [h2, h4]
  · rw [h1] at h3; cases h3
  · rw [h1] at h3; cases h3
  · rw [h1] at h3; injection h3 with h3; exact lits_inj l l' h3
abbrev GroupsI (w : World) (b n : Nat) (D : DataW Unit) : Prop := w.ownsGroups Try.prog 3 (b + 1) 3 .i64 b n D
/-- Block b is a map of at most n entries; each is a slice that owns its numbers; f says which. -/
def MapG (w : World) (b n : Nat) (f : Int → List Int) : Prop := ∃ D : DataW Unit, GroupsI w b n D ∧ ∀ t, RdL (D.atKey (.int .i64 t) .nil) (f t)
def updG (f : Int → List Int) (o : Int) (v : List Int) : Int → List Int := fun x => if x = o then v else f x
theorem MapG.made (w : World) : MapG (w.alloc (.map #[] 0)) w.heap.size 0 (fun _ => []) := ⟨.map [], World.ownsGroups_made w _ _ _ _, fun _ => .inl ⟨rfl, rfl⟩⟩
section
variable {w w' : World} {b n : Nat} {f : Int → List Int}
theorem MapG.lt (h : MapG w b n f) : b < w.heap.size := by
  obtain ⟨D, ⟨es, clock, hb, _⟩, _⟩ := h
  exact (Array.getElem?_eq_some_iff.1 hb).1
theorem MapG.kept {row : Option Nat} (h : MapG w b n f) (hg : w.grownBy w' row) (hb' : some b ≠ row)
    (hrow : ∀ es clock, w.heap[b]? = some (.map es clock) → ∀ x ∈ es.toList, x.val.ownBlock = none ∨ x.val.ownBlock ≠ row) : MapG w' b n f := by
  obtain ⟨D, h, hf⟩ := h
  exact ⟨D, h.kept hg hb' hrow, hf⟩
theorem MapG.ext (h : MapG w b n f) (hx : Ext w w') : MapG w' b n f :=
  h.kept (row := none) ⟨hx.os, hx.tape, hx.output, hx.size, fun k hk _ => hx.block k hk⟩ (by simp) (fun es clock hb x hx => by cases x.val.ownBlock <;> simp)
theorem MapG.alloc (h : MapG w b n f) (o : Obj) : MapG (w.alloc o) b n f := h.ext ((Ext.refl w).alloc o)
theorem MapG.drew (h : MapG w b n f) : MapG w.drew b n f := h.ext (Ext.refl w).drew
/-- A row of other things is no group's row, nor the map. -/
theorem MapG.apart {e' : TypeId} {base' sz m : Nat} {v : Value} {xs : List Value} (h : MapG w b n f) (ho : w.ownsRow base' e' sz v m xs) (hne : e' ≠ 3) :
    some b ≠ v.ownBlock ∧ ∀ es clock, w.heap[b]? = some (.map es clock) → ∀ x ∈ es.toList, x.val.ownBlock = none ∨ x.val.ownBlock ≠ v.ownBlock := by
  obtain ⟨D, ⟨es', clock', hb', F, _⟩, _⟩ := h
  refine ⟨fun e1 => ?_, fun es clock hb x hx => ?_⟩
  · rcases ho.2 with ⟨rfl, _⟩ | ⟨g, cap, cur, rfl, _, hg, _⟩
    · cases e1
    · injection e1 with e1
      have e2 : g = b := e1.symm
      rw [e2, hb'] at hg
      cases hg
  · obtain ⟨rfl, rfl⟩ : es' = es ∧ clock' = clock := by rw [hb'] at hb; simpa using hb
    cases hx' : x.val.ownBlock with
    | none => exact Or.inl rfl
    | some g =>
      refine Or.inr (fun e1 => ?_)
      obtain ⟨y, hy⟩ := F.reads x hx
      obtain ⟨z, hz, _⟩ := WideElems.rd_val hy
      obtain ⟨zs, hoi, _⟩ := rowElem_inv hz
      rcases hoi.1.2 with ⟨h1, _⟩ | ⟨g1, cap1, cur1, h1, _, hg1, _⟩
      · rw [h1] at hx'; cases hx'
      · rw [h1] at hx'
        injection hx' with hx'
        rcases ho.2 with ⟨rfl, _⟩ | ⟨g2, cap, cur, rfl, _, hg, _⟩
        · cases e1
        · injection e1 with e1
          have : g1 = g2 := by simpa using hx'.trans e1
          rw [← this, hg1] at hg
          injection hg with hg
          injection hg with _ h9 _
          exact hne h9.symm
theorem MapG.look (h : MapG w b n f) (hn : n < maxLen) (t : Int) (h1 : -9223372036854775808 ≤ t) (h2 : t ≤ 9223372036854775807) :
    ∃ A m c, (Instr.lookup 47 (.map (some b)) (.int .i64 t) false).run Try.prog w = .ok (.slice A m c) w ∧ (f t).length = m ∧ m ≤ n ∧ w.ownsRow (b + 1) 3 1 (.slice A m c) m (intsV (f t)) ∧
      ∀ (w1 : World) (v' : Value) (zs' : List Int), w.grownBy w1 (Value.ownBlock (.slice A m c)) → w1.ownsRow (b + 1) 3 1 v' zs'.length (intsV zs') → (∀ z ∈ zs', -9223372036854775808 ≤ z ∧ z ≤ 9223372036854775807) → zs'.length ≤ n + 1 →
        (v'.ownBlock = Value.ownBlock (.slice A m c) ∨ ∃ g, v'.ownBlock = some g ∧ w.heap.size ≤ g) →
        ∃ w2, (Instr.mapUpdate 47 (.map (some b)) (.int .i64 t) v').run Try.prog w1 = .ok () w2 ∧ MapG w2 b (n + 1) (updG f t zs') ∧ w1.grownBy w2 (some b) := by
  obtain ⟨D, h, hf⟩ := h
  obtain ⟨v, zs, hrun, hat, hoi, hzl, hback⟩ := h.at (int_keyed Try.underlying3) Try.underlying47 (by kernel_rfl) hn (keyOf_int_mk Try.underlying3 (wf64L t h1 h2))
  have hzs : zs = f t := by
    refine RdL.unique (d := D.atKey (.int .i64 t) .nil) ?_ (hf t)
    rw [hat]
    exact hoi.datum
  subst hzs
  obtain ⟨A, c, rfl⟩ : ∃ A c, v = .slice A (f t).length c := by
    rcases hoi.1.2 with ⟨h1, h2⟩ | ⟨g, cap, cur, h1, _⟩
    · exact ⟨none, 0, by rw [h1, h2]⟩
    · exact ⟨_, _, h1⟩
  refine ⟨A, (f t).length, c, hrun, rfl, hzl, hoi.1, fun w1 v' zs' hg ho' hb hl hloc => ?_⟩
  have hoi' : w1.ownsInts (b + 1) 3 .i64 v' zs' := ⟨ho', fun z hz => wf64L z (hb z hz).1 (hb z hz).2⟩
  obtain ⟨w2, hr2, h5, h6⟩ := hback w1 v' zs' hg hoi' hl hloc
  refine ⟨w2, hr2, ⟨_, h5, fun x => ?_⟩, h6⟩
  by_cases hx : x = t
  · subst hx
    have hm : IsMap D := by obtain ⟨es, clock, _, _, _, rfl, _⟩ := h; exact ⟨_, rfl⟩
    rw [atKey_put_same hm (by trivial)]
    simp only [updG, if_true]
    exact hoi'.datum
  · rw [atKey_put_other (fun e => hx (by injection e))]
    simp only [updG, if_neg hx]
    exact hf x
end
end Go.Proofs.Ytngdhpjbfcgloaa
