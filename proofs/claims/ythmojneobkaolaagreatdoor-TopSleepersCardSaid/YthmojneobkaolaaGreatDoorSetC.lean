/- Many cells stored at once into a block. Plain theorems, no condition. -/
import Derived.Test.YthmojneobkaolaaGreatDoorKeepL
import Derived.Deep.MidRow
namespace Go.Proofs.YthmojneobkaolaaGreatDoor
open Go.RowKit
set_option linter.unusedVariables false

theorem Blk.range {w : World} {g : Nat} {t : TypeId} {cs : Array Value} (h : Blk w g t cs) (o : Nat) (l : List Value) (hl : ∀ j v, l[j]? = some v → cs[o + j]? = some v) : w.rangeAt g o l := fun j v hv => by rw [h.cell]; exact hl j v hv
theorem Blk.all {w : World} {g : Nat} {t : TypeId} {l : List Value} (h : Blk w g t l.toArray) : w.rangeAt g 0 l := h.range 0 l fun j v hv => by rw [Nat.zero_add, List.getElem?_toArray]; exact hv
theorem Blk.there_ {w : World} {g : Nat} {t : TypeId} {cs : Array Value} (h : Blk w g t cs) (o n : Nat) (hn : o + n ≤ cs.size) : w.there g o n := fun j hj => ⟨by rw [h.cell, Array.getElem?_eq_getElem (by omega)]; rfl, h.frozen _⟩
def arrSet (cs : Array Value) (o : Nat) : List Value → Array Value
  | [] => cs
  | v :: r => arrSet (cs.setIfInBounds o v) (o + 1) r
theorem arrSet_size (vs : List Value) : ∀ (cs : Array Value) (o : Nat), (arrSet cs o vs).size = cs.size := by
  induction vs with
  | nil => intro cs o; rfl
  | cons v r ih => intro cs o; rw [arrSet, ih]; simp
theorem arrSet_get (vs : List Value) : ∀ (cs : Array Value) (o : Nat), o + vs.length ≤ cs.size → ∀ i, (arrSet cs o vs)[i]? = if o ≤ i ∧ i < o + vs.length then vs[i - o]? else cs[i]? := by
  induction vs with
  | nil => intro cs o _ i; rw [arrSet, if_neg (by simp only [List.length_nil]; omega)]
  | cons v r ih =>
    intro cs o h i
    simp only [List.length_cons] at h ⊢
    rw [arrSet, ih _ _ (by simp; omega) i]
    by_cases h1 : i = o
    · subst h1
      rw [if_neg (by omega), if_pos (by omega), Nat.sub_self, Array.getElem?_setIfInBounds_self_of_lt (by omega)]
      rfl
    · by_cases h2 : o + 1 ≤ i ∧ i < o + 1 + r.length
      · rw [if_pos h2, if_pos (by omega), show i - o = (i - (o + 1)) + 1 by omega]
        rfl
      · rw [if_neg h2, if_neg (by omega), Array.getElem?_setIfInBounds_ne (Ne.symm h1)]
theorem arrSet_whole (vs : List Value) (cs : Array Value) (h : vs.length = cs.size) : arrSet cs 0 vs = vs.toArray := by
  apply Array.ext_getElem?
  intro i
  rw [arrSet_get vs cs 0 (by omega) i]
  have e : vs.toArray[i]? = vs[i]? := List.getElem?_toArray
  rw [e]
  by_cases hi : i < vs.length
  · rw [if_pos (by omega), Nat.sub_zero]
  · rw [if_neg (by omega), Array.getElem?_eq_none (by omega), List.getElem?_eq_none (by omega)]
section
variable {w : World} {g : Nat} {t : TypeId} {cs : Array Value}
theorem Blk.setCells (vs : List Value) : ∀ {w : World} {cs : Array Value} (o : Nat), Blk w g t cs → Blk (w.setCells g o vs) g t (arrSet cs o vs) := by
  induction vs with
  | nil => intro w cs o h; exact h
  | cons v r ih => intro w cs o h; exact ih (o + 1) (h.set_ o v)
theorem Blk.setAll (h : Blk w g t cs) (vs : List Value) (hs : vs.length = cs.size) : Blk (w.setCells g 0 vs) g t vs.toArray := by
  have := h.setCells vs 0
  rwa [arrSet_whole vs cs hs] at this
theorem setCells_grown (g : Nat) (vs : List Value) : ∀ (w : World) (o : Nat), w.grownBy (w.setCells g o vs) (some g) := by
  induction vs with
  | nil => intro w o; exact ⟨rfl, rfl, rfl, Nat.le_refl _, fun k _ _ => rfl⟩
  | cons v r ih =>
    intro w o
    have h := ih (w.setCell ⟨g, o, none⟩ v) (o + 1)
    refine ⟨h.os, h.tape, h.output, Nat.le_trans (Nat.le_of_eq (by simp)) h.size, fun k hk hn => ?_⟩
    have h1 := h.block k (by simpa using hk) hn
    exact h1.trans (Below.heap_setCell w ⟨g, o, none⟩ v k (fun e => hn (by rw [e])))
theorem Ext.setCells {a : World} (h : Ext a w) (hg : a.heap.size ≤ g) (o : Nat) (vs : List Value) : Ext a (w.setCells g o vs) := h.grown (setCells_grown g vs w o) (fun k hk => by injection hk with hk; omega)
theorem Blk.farC (h : Blk w g t cs) {g' : Nat} (hne : g ≠ g') (o : Nat) (vs : List Value) : Blk (w.setCells g' o vs) g t cs := h.grown (setCells_grown g' vs w o) (fun e => hne (by injection e))
end
end Go.Proofs.YthmojneobkaolaaGreatDoor
