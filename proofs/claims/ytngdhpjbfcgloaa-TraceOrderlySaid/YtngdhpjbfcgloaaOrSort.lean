/- slices.SortFunc on the edges that Order gathers. -/
import Derived.Test.YtngdhpjbfcgloaaOrCmp
import Derived.Test.YtngdhpjbfcgloaaOrP
import Derived.Test.YtngdhpjbfcgloaaSrt
import Derived.Test.YtngdhpjbfcgloaaFlat
namespace Go.Proofs.Ytngdhpjbfcgloaa
open Go.RowKit Go.Sort Go.Shelf
set_option linter.unusedVariables false

def encE (e : EdI) : List Value := [.int .i64 e.1, .int .i64 e.2]
def edV (l : List EdI) : List Value := l.flatMap encE
theorem encE_len (e : EdI) : (encE e).length = 2 := rfl
theorem edV_len (l : List EdI) : (edV l).length = l.length * 2 := by
  unfold edV
  induction l with
  | nil => rfl
  | cons e l ih => rw [List.flatMap_cons, List.length_append, ih, encE_len, List.length_cons]; omega
theorem edV_app (a b : List EdI) : edV (a ++ b) = edV a ++ edV b := by simp [edV]
theorem edV_one (l : List EdI) : ∀ v ∈ edV l, v.oneCell' = true := by
  intro v hv
  obtain ⟨e, _, h⟩ := List.mem_flatMap.1 hv
  simp [encE] at h
  rcases h with rfl | rfl <;> rfl
theorem edV_get : ∀ (l : List EdI) (t : Nat), t < l.length * 2 → (edV l)[t]? = some ((encE (l[t / 2]!))[t % 2]!) := by
  intro l
  induction l with
  | nil => intro t h; simp at h
  | cons e l ih =>
    intro t h
    rw [List.length_cons] at h
    have e0 : edV (e :: l) = .int .i64 e.1 :: .int .i64 e.2 :: edV l := rfl
    rw [e0]
    rcases (by omega : t = 0 ∨ t = 1 ∨ 2 ≤ t) with rfl | rfl | h2
    · rfl
    · rfl
    · obtain ⟨s, rfl⟩ : ∃ s, t = s + 2 := ⟨t - 2, by omega⟩
      rw [List.getElem?_cons_succ, List.getElem?_cons_succ, ih s (by omega)]
      have e1 : (s + 2) / 2 = s / 2 + 1 := by omega
      have e2 : (s + 2) % 2 = s % 2 := by omega
      rw [e1, e2]
      simp
theorem flat_edges (d : Array EdI) : (flatK encE 2 d).toList = edV d.toList := by
  apply List.ext_getElem?
  intro t
  by_cases h : t < d.size * 2
  · rw [edV_get _ t (by simpa using h), Array.getElem?_toList]
    have h1 : t < (flatK encE 2 d).size := by simpa using h
    have hlt : t / 2 < d.size := by omega
    have e : d.toList[t / 2]! = d[t / 2]! := by
      rw [getElem!_pos d _ hlt, getElem!_pos d.toList _ (by simpa using hlt)]
      simp
    rw [Array.getElem?_eq_getElem h1, ← getElem!_pos (flatK encE 2 d) t h1, get_flatK encE 2 d t h, e]
  · rw [List.getElem?_eq_none (by simp; omega), List.getElem?_eq_none (by rw [edV_len]; simp; omega)]
theorem cmpZ_neg (a b : Int) : (cmpZ a b < 0 ↔ a < b) ∧ (cmpZ a b = 0 ↔ a = b) := by
  unfold cmpZ
  by_cases h1 : a < b
  · rw [if_pos h1]; constructor <;> constructor <;> intro <;> omega
  · rw [if_neg h1]
    by_cases h2 : b < a
    · rw [if_pos h2]; constructor <;> constructor <;> intro <;> omega
    · rw [if_neg h2]; constructor <;> constructor <;> intro <;> omega
def cfE (x y : EdI) : Int := orZ (cmpZ x.1 y.1) (cmpZ x.2 y.2)
theorem ltE (x y : EdI) : ltOf cfE x y = decide (x.1 < y.1 ∨ (x.1 = y.1 ∧ x.2 < y.2)) := by
  unfold ltOf cfE orZ
  have h1 := cmpZ_neg x.1 y.1
  have h2 := cmpZ_neg x.2 y.2
  by_cases e : cmpZ x.1 y.1 = 0
  · rw [if_pos e]
    have e1 := h1.2.1 e
    rw [decide_eq_decide, h2.1]
    constructor
    · intro h; exact .inr ⟨e1, h⟩
    · intro h; rcases h with h | h
      · omega
      · exact h.2
  · rw [if_neg e]
    have e1 : ¬ x.1 = y.1 := fun h => e (h1.2.2 h)
    rw [decide_eq_decide, h1.1]
    constructor
    · intro h; exact .inl h
    · intro h; rcases h with h | h
      · exact h
      · exact absurd h.1 e1
theorem swoE : Sort.SWO (ltOf cfE) where
  irrefl x := by rw [ltE]; simp
  trans x y z h1 h2 := by rw [ltE] at *; simp at *; omega
  ntrans x y z h1 h2 := by rw [ltE] at *; simp at *; omega
theorem own_putV {w : World} {base : Nat} {e : TypeId} {g n cap q size : Nat} {xs : List Value} {ys : Array Value} (h : w.ownsRow base e size (.slice (some ⟨g, 0, none⟩) n cap) n xs) (hy : ys.size = n * size) :
    (Sort.putRow id (Sort.ahead w q) g 0 ys).ownsRow base e size (.slice (some ⟨g, 0, none⟩) n cap) n ys.toList := by
  rcases h.2 with ⟨e0, _⟩ | ⟨g', cap', cur, e0, hb, hg, hn, hm, hs, ht⟩
  · cases e0
  · injection e0 with e1 _ e3
    injection e1 with e1
    injection e1 with e1
    subst e1; subst e3
    have hle : n * size ≤ cur.size := by rw [hs]; exact Nat.mul_le_mul_right _ hn
    refine ⟨by simpa using hy, .inr ⟨g, cap, Sort.putCells id 0 ys cur, rfl, hb, ?_, hn, hm, by simpa [Sort.putCells] using hs, ?_⟩⟩
    · simp [Sort.putRow, Sort.mapBlock, Sort.ahead, Array.getElem?_modify, hg, Sort.onCells]
    · apply List.ext_getElem?
      intro j
      rw [List.getElem?_take, Array.getElem?_toList, Array.getElem?_toList]
      by_cases hj : j < n * size
      · have hjc : j < cur.size := by omega
        simp only [if_pos hj, Sort.putCells, Array.getElem?_mapIdx, Array.getElem?_eq_getElem hjc, Option.map_some]
        rw [if_pos (by simp; omega), Array.getElem?_eq_getElem (by omega)]
        simp [getElem!_pos, show j < ys.size by omega]
      · rw [if_neg hj, Array.getElem?_eq_none (by omega)]
theorem holds_edges {w : World} {base g n cap : Nat} {E : List EdI} (h : w.ownsRow base 24 2 (.slice (some ⟨g, 0, none⟩) n cap) n (edV E)) : HoldsK encE 2 w g 0 E.toArray ∧ g < w.heap.size ∧ E.length = n := by
  have hl : E.length = n := by have := h.1; rw [edV_len] at this; omega
  rcases h.2 with ⟨e0, _⟩ | ⟨g', cap', cur, e0, hb, hg, hn, hm, hs, ht⟩
  · cases e0
  · injection e0 with e1 _ e3
    injection e1 with e1
    injection e1 with e1
    subst e1; subst e3
    refine ⟨fun j hj => ?_, (Array.getElem?_eq_some_iff.1 hg).1, hl⟩
    rw [size_flatK] at hj
    have hj' : j < E.length * 2 := by simpa using hj
    have hb' : Blk w g 24 cur := hg
    rw [Nat.zero_add]
    refine ⟨?_, hb'.frozen j⟩
    rw [hb'.cell j, get_flatK encE 2 _ j (by simpa using hj')]
    have h1 := edV_get E j hj'
    rw [← ht, List.getElem?_take, if_pos (by omega), Array.getElem?_toList] at h1
    rw [h1]
    simp
theorem sort_edges (E : List EdI) (g n cap base : Nat) (w : World) (h : w.ownsRow base 24 2 (.slice (some ⟨g, 0, none⟩) n cap) n (edV E)) (hn : n ≤ 1000000) :
    Calls Try.prog 18 #[.slice (some ⟨g, 0, none⟩) n cap, .func (.func 19) #[] #[]] w fun e w' => e = .returned (.tuple #[]) ∧ ∃ E' : List EdI, E'.Perm E ∧ w'.ownsRow base 24 2 (.slice (some ⟨g, 0, none⟩) n cap) n (edV E') ∧ w.grownBy w' (some g) := by
  obtain ⟨hH, hg, hl⟩ := holds_edges h
  subst hl
  have eg : ∀ args w, (callFunc 19 args).run Try.prog w = .ok (.enter 19 args) w := enters_of Try.func19 (by kernel_rfl) rfl
  have hcon := Try.slices_SortFunc_edge 2 Try.isAgg24 Try.sizeOf24 encE encE_len (fun x v hv => by simp [encE] at hv; rcases hv with rfl | rfl <;> rfl) cfE swoE 19 #[] g 0 cap E.toArray w eg
    (fun m os dk hs x y => closure_any x.1 x.2 y.1 y.2 _) hH hg (by simp; omega)
  simp only [List.size_toArray] at hcon
  refine hcon.mono ?_
  rintro e w' ⟨rfl, d', q, os, hp, hs, rfl⟩
  have hsz : d'.size = E.length := by have := hp.1; simpa using this
  have ho := own_putV (q := q) (ys := flatK encE 2 d') h (by rw [size_flatK, hsz])
  rw [flat_edges] at ho
  refine ⟨rfl, d'.toList, ?_, ?_, ?_⟩
  · have := hp.2.2
    have e1 : d'.extract 0 E.length = d' := by rw [← hsz]; simp
    rw [e1] at this
    simpa using this
  · have hgr : (putRow id (Go.Sort.ahead w q) g 0 (flatK encE 2 d')).grownBy (sortWorldK encE 2 w g 0 q d' os) none := by
      refine ⟨rfl, rfl, rfl, ?_, fun k hk _ => ?_⟩
      · show _ ≤ ((putRow id (Go.Sort.ahead w q) g 0 (flatK encE 2 d')).heap ++ os).size
        rw [Array.size_append]
        omega
      · show ((putRow id (Go.Sort.ahead w q) g 0 (flatK encE 2 d')).heap ++ os)[k]? = _
        rw [Array.getElem?_append_left hk]
    exact ho.kept hgr (.inr (by simp [Value.ownBlock]))
  · unfold sortWorldK
    refine ⟨rfl, rfl, rfl, by simp [putRowK, Sort.putRow, Sort.mapBlock, Sort.ahead, Sort.grow], fun k hk hne => ?_⟩
    have hk' : g ≠ k := fun e => hne (by rw [e])
    have hk2 : k < (putRowK encE 2 (Sort.ahead w q) g 0 d').heap.size := by simpa [putRowK, Sort.putRow, Sort.mapBlock, Sort.ahead] using hk
    simp only [Sort.grow]
    rw [Array.getElem?_append_left hk2]
    simp [putRowK, Sort.putRow, Sort.mapBlock, Sort.ahead, Array.getElem?_modify, hk']
end Go.Proofs.Ytngdhpjbfcgloaa
