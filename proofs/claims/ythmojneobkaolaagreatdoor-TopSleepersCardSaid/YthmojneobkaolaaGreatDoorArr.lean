/- An array of the call's own as a function; the array by value. Plain theorems, no condition. -/
import Derived.Test.YthmojneobkaolaaGreatDoorMem
import Derived.Deep.MidRow
namespace Go.Proofs.YthmojneobkaolaaGreatDoor
open Go.RowKit

def updN {α : Type} (f : Nat → α) (o : Nat) (v : α) : Nat → α := fun x => if x = o then v else f x
theorem updN_same {α : Type} (f : Nat → α) (o : Nat) (v : α) : updN f o v o = v := by simp [updN]
theorem updN_other {α : Type} (f : Nat → α) (o x : Nat) (v : α) (h : x ≠ o) : updN f o v x = f x := by simp [updN, h]
/-- Block g is an array of n one-cell elements, of type t; f says what it holds. -/
def Arr (w : World) (g : Nat) (t : TypeId) (n : Nat) (f : Nat → Value) : Prop := ∃ cs, Blk w g t cs ∧ cs.size = n ∧ ∀ o, o < n → cs[o]? = some (f o)
section
variable {w w' : World} {g n : Nat} {t : TypeId} {f : Nat → Value}
theorem Arr.cell (h : Arr w g t n f) (o : Nat) (ho : o < n) : w.cell? ⟨g, o, none⟩ = some (f o) := by
  obtain ⟨cs, hb, _, hc⟩ := h
  rw [hb.cell, hc o ho]
theorem Arr.frozen (h : Arr w g t n f) (o : Nat) : w.frozen? ⟨g, o, none⟩ = false := by
  obtain ⟨cs, hb, _, hc⟩ := h
  exact hb.frozen o
theorem Arr.lt (h : Arr w g t n f) : g < w.heap.size := by
  obtain ⟨cs, hb, _, hc⟩ := h
  exact hb.lt
theorem Arr.ext (h : Arr w g t n f) (hx : Ext w w') : Arr w' g t n f := by
  obtain ⟨cs, hb, hs, hc⟩ := h
  exact ⟨cs, hb.ext hx, hs, hc⟩
theorem Arr.grown {row : Option Nat} (h : Arr w g t n f) (hb : w.grownBy w' row) (hg : some g ≠ row) : Arr w' g t n f := by
  obtain ⟨cs, hb', hs, hc⟩ := h
  exact ⟨cs, hb'.grown hb hg, hs, hc⟩
theorem Arr.far (h : Arr w g t n f) {p : Addr} (hp : g ≠ p.block) (u : Value) : Arr (w.setCell p u) g t n f := by
  obtain ⟨cs, hb', hs, hc⟩ := h
  exact ⟨cs, hb'.far hp u, hs, hc⟩
theorem Arr.alloc (h : Arr w g t n f) (o : Obj) : Arr (w.alloc o) g t n f := h.ext ((Ext.refl w).alloc o)
theorem Arr.drew (h : Arr w g t n f) : Arr w.drew g t n f := h.ext (Ext.refl w).drew
theorem Arr.drewN (h : Arr w g t n f) (k : Nat) : Arr (w.drewN k) g t n f := h.ext ((Ext.refl w).drewN k)
theorem Arr.set (h : Arr w g t n f) (o : Nat) (ho : o < n) (v : Value) : Arr (w.setCell ⟨g, o, none⟩ v) g t n (updN f o v) := by
  obtain ⟨cs, hb, hs, hc⟩ := h
  refine ⟨_, hb.set_ o _, by simpa using hs, fun x hx => ?_⟩
  by_cases e : o = x
  · subst e
    simp [hs, ho, updN]
  · rw [Array.getElem?_setIfInBounds_ne e, hc x hx]
    simp [updN, Ne.symm e]
theorem Arr.congr {f' : Nat → Value} (h : Arr w g t n f) (e : ∀ o, o < n → f o = f' o) : Arr w g t n f' := by
  obtain ⟨cs, hb, hs, hc⟩ := h
  exact ⟨cs, hb, hs, fun o ho => by rw [hc o ho, e o ho]⟩
theorem Blk.arr {cs : Array Value} (h : Blk w g t cs) (z : Value) (hs : cs = (List.replicate n z).toArray) : Arr w g t n (fun _ => z) := by
  subst hs
  refine ⟨_, h, by simp, fun o ho => ?_⟩
  rw [List.getElem?_toArray, List.getElem?_replicate, if_pos ho]
/-- The whole array, for wpList_load_mid. -/
theorem Arr.whole (h : Arr w g t n f) : ∃ cs : List Value, (∀ o, o < n → cs[o]? = some (f o)) ∧ cs.length = n ∧ w.rangeAt g 0 cs := by
  obtain ⟨cs, hb, hs, hc⟩ := h
  exact ⟨cs.toList, fun o ho => by simpa using hc o ho, by simpa using hs, fun j v hv => by rw [Nat.zero_add, hb.cell]; simpa using hv⟩
end
/-- 'a[i]' of an array by value. -/
theorem index_arr {P : Program} {t e : TypeId} {n : Nat} {d : TypeDesc} (hu : P.underlying t = some (.array n e)) (hd : P.underlying e = some d) (hr : d.isRow = false) {i0 : TypeInfo} (hi : P.info? e = some i0) (hs : i0.size = 1)
    (cs : Array Value) (i : Nat) (hlt : i < n) {v : Value} (hv : cs[i]? = some v) (k : IntKind) (w : World) : (Instr.index t (.agg cs) (.int k (i : Int))).run P w = .ok v w := by
  have hagg : (isAgg e).run P w = .ok false w := by
    unfold isAgg
    rw [Sem.run_bind, run_underlying hd w]
    cases d <;> simp_all
  simp [Instr.index, run_underlying hu, asIntOf, part, hagg, sizeOf, typeInfo, hi, hs, hv, hlt, go_sem]
theorem Blk.reads2 {w : World} {g : Nat} {t : TypeId} {a b : Value} (h : Blk w g t #[a, b]) : Reads w w.heap.size 2 (some ⟨g, 0, none⟩) 1 [a, b] := by
  refine ⟨by simp, fun _ => ⟨_, rfl, h.lt, fun j u hu => ?_⟩⟩
  rw [add_lit, Nat.zero_add, h.cell]
  simpa using hu
/-- The first k elements of an owned row. -/
theorem own_take {w : World} {base n c : Nat} {e : TypeId} {A : Option Addr} {xs : List Value} (h : w.ownsRow base e 1 (.slice A n c) n xs) (k : Nat) (hk : k ≤ n) : w.ownsRow base e 1 (.slice A k c) k (xs.take k) := by
  obtain ⟨h1, h2⟩ := h
  refine ⟨by rw [List.length_take]; omega, ?_⟩
  rcases h2 with ⟨h2, h3⟩ | ⟨g', cap, cur, hv, hg, hh, hn, hm, hs, hx⟩
  · subst h3
    obtain rfl : k = 0 := by omega
    exact .inl ⟨h2, rfl⟩
  · injection hv with hA _ hc
    subst hA hc
    refine .inr ⟨g', c, cur, rfl, hg, hh, by omega, hm, hs, ?_⟩
    rw [← hx, List.take_take]
    congr 1
    omega
end Go.Proofs.YthmojneobkaolaaGreatDoor
