/- The contract of ringkeep4.printable. -/
import Derived.Test.YtjbgkcljjgofnaaDoorWSplit
namespace Go.Proofs.YtjbgkcljjgofnaaDoor
open Go.RowKit
set_option linter.unusedVariables false

def prnC (c : UInt8) : UInt8 := 32 + c % 95
def prnL (l : List UInt8) : List UInt8 := l.map prnC
theorem prnC_toNat (c : UInt8) : (prnC c).toNat = 32 + c.toNat % 95 := by
  unfold prnC
  have h1 : (c % 95).toNat = c.toNat % 95 := UInt8.toNat_mod c 95
  rw [UInt8.toNat_add, h1]
  have := Nat.mod_lt c.toNat (show 95 > 0 by decide)
  have : (32 : UInt8).toNat = 32 := rfl
  omega
theorem prnL_ok (l : List UInt8) : Printable (prnL l) := by
  intro c hc
  obtain ⟨d, -, rfl⟩ := List.mem_map.1 hc
  rw [prnC_toNat]
  have := Nat.mod_lt d.toNat (show 95 > 0 by decide)
  omega
section
variable {P : Program}
theorem str_to {T : TypeId} (hT : P.underlying T = some .string) (l : List UInt8) {k : Nat} (h : k ≤ l.length) (W : World) : (Instr.slice T (.string (str l)) none (some (.int .i64 (k : Int))) none).run P W = .ok (.string (str (l.take k))) W := by
  rw [run_slice_string_to_if W T (str l) .i64 (k : Int) hT, if_pos ⟨by omega, by rw [str_size]; omega⟩]
  rw [Int.toNat_natCast, str, ByteArray.extract_mk, str]
  rfl
end
/-- Block g begins with the bytes bs, none of them frozen. -/
def BytesAt (w : World) (g : Nat) (bs : List UInt8) : Prop := ∃ (cs : Array Value) (t : TypeId) (m : Nat), w.heap[g]? = some (.cells cs t (m, m + 1)) ∧ bs.length ≤ m ∧ ∀ i (h : i < bs.length), cs[i]? = some (.int .u8 (bs[i].toNat : Int))
section
variable {w w' : World} {g : Nat} {bs : List UInt8}
theorem BytesAt.lt (h : BytesAt w g bs) : g < w.heap.size := by
  obtain ⟨cs, t, m, h, -⟩ := h
  exact (Array.getElem?_eq_some_iff.1 h).1
theorem BytesAt.cell (h : BytesAt w g bs) (i : Nat) (hi : i < bs.length) : w.cell? ⟨g, i, none⟩ = some (.int .u8 (bs[i].toNat : Int)) := by
  obtain ⟨cs, t, m, h, -, hc⟩ := h
  rw [cell_of_row w g i cs t _ h]
  exact hc i hi
theorem BytesAt.frozen (h : BytesAt w g bs) (i : Nat) (hi : i < bs.length) : w.frozen? ⟨g, i, none⟩ = false := by
  obtain ⟨cs, t, m, h, hm, -⟩ := h
  simp [World.frozen?, h]
  omega
theorem BytesAt.ext (h : BytesAt w g bs) (hx : Ext w w') : BytesAt w' g bs := by
  have hl := h.lt
  obtain ⟨cs, t, m, h, r⟩ := h
  exact ⟨cs, t, m, (Below.block hx g hl).trans h, r⟩
theorem BytesAt.set (h : BytesAt w g bs) (i : Nat) (c : UInt8) : BytesAt (w.setCell ⟨g, i, none⟩ (.int .u8 (c.toNat : Int))) g (bs.set i c) := by
  obtain ⟨cs, t, m, h, hm, hc⟩ := h
  refine ⟨cs.setIfInBounds i (.int .u8 (c.toNat : Int)), t, m, by simp [World.setCell, Array.getElem?_modify, h], by simpa using hm, fun j hj => ?_⟩
  rw [List.length_set] at hj
  have hcj := hc j hj
  rw [Array.getElem?_setIfInBounds, List.getElem_set]
  split
  · rename_i e
    subst e
    have := (Array.getElem?_eq_some_iff.1 hcj).1
    rw [if_pos this]
  · exact hcj
theorem BytesAt.reads (h : BytesAt w g bs) : Reads w w.heap.size 1 (some ⟨g, 0, none⟩) bs.length (bytesV bs) := by
  refine ⟨by simp [bytesV], fun _ => ⟨_, rfl, h.lt, fun j u hu => ?_⟩⟩
  rw [add_lit, Nat.zero_add]
  obtain ⟨hj, e⟩ := List.getElem?_eq_some_iff.1 hu
  have hj' : j < bs.length := by simpa [bytesV] using hj
  rw [h.cell j hj']
  simpa [bytesV] using e
theorem BytesAt.made (w : World) (l : List UInt8) (e : TypeId) (cap : Nat) : BytesAt (w.drew.alloc (.cells (bytesRow (str l) cap) e ((bytesRow (str l) cap).size, (bytesRow (str l) cap).size + 1))) w.heap.size l := by
  refine ⟨_, e, _, heap_alloc_new w.drew _, by simp [bytesRow, str], fun i hi => ?_⟩
  rw [bytesRow_at (str l) cap i (by simpa [str] using hi)]
  simp [str]
end
theorem u8_mod (c : UInt8) : ((c.toNat : Int) % 95) = ((c % 95).toNat : Int) := by
  rw [UInt8.toNat_mod]; rfl
def PrnRel (w : World) (g : Nat) (l : List UInt8) (v : Value) (wr : World) : Prop := ∃ k : Nat, k ≤ l.length ∧ v = .int .i64 k ∧ BytesAt wr g (prnL (l.take k) ++ l.drop k) ∧ Ext w wr
theorem prn_next (l : List UInt8) (k : Nat) (h : k < l.length) : (prnL (l.take k) ++ l.drop k).set k (prnC l[k]) = prnL (l.take (k + 1)) ++ l.drop (k + 1) := by
  have hl : (prnL (l.take k)).length = k := by simp [prnL]; omega
  rw [List.set_append_right _ _ (by omega), hl, Nat.sub_self, List.drop_eq_getElem_cons h, List.set_cons_zero, List.take_succ_eq_append_getElem h]
  unfold prnL
  rw [List.map_append, List.append_assoc]
  rfl
end Go.Proofs.YtjbgkcljjgofnaaDoor
