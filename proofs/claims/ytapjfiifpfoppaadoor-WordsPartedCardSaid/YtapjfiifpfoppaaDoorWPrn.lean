/- The contract of ringkeep4.printable. -/
import Derived.Test.YtapjfiifpfoppaaDoorWSplit
namespace Go.Proofs.YtapjfiifpfoppaaDoor
open Go.RowKit
set_option linter.unusedVariables false

def prnC (c : UInt8) : UInt8 := 32 + c % 95
def prnL (l : List UInt8) : List UInt8 := l.map prnC
theorem prnC_toNat (c : UInt8) : (prnC c).toNat = 32 + c.toNat % 95 := by
  unfold prnC
  have h1 : (c % 95).toNat = c.toNat % 95 := UInt8.toNat_mod c 95
  rw [UInt8.toNat_add, h1]
  have := Nat.mod_lt c.toNat (show 95 > 0 by decide)
  have : (32 : UInt8).toNat = 32 := rfl
  omega
theorem prnL_ok (l : List UInt8) : Printable (prnL l) := by
  intro c hc
  obtain ⟨d, -, rfl⟩ := List.mem_map.1 hc
  rw [prnC_toNat]
  have := Nat.mod_lt d.toNat (show 95 > 0 by decide)
  omega
section
variable {P : Program}
theorem str_to {T : TypeId} (hT : P.underlying T = some .string) (l : List UInt8) {k : Nat} (h : k ≤ l.length) (W : World) : (Instr.slice T (.string (str l)) none (some (.int .i64 (k : Int))) none).run P W = .ok (.string (str (l.take k))) W := by
  rw [run_slice_string_to_if W T (str l) .i64 (k : Int) hT, if_pos ⟨by omega, by rw [str_size]; omega⟩]
  rw [Int.toNat_natCast, str, ByteArray.extract_mk, str]
  rfl
end
/-- Block g begins with the bytes bs, none of them frozen. -/
def BytesAt (w : World) (g : Nat) (bs : List UInt8) : Prop := ∃ (cs : Array Value) (t : TypeId) (m : Nat), w.heap[g]? = some (.cells cs t (m, m + 1)) ∧ bs.length ≤ m ∧ ∀ i (h : i < bs.length), cs[i]? = some (.int .u8 (bs[i].toNat : Int))
section
variable {w w' : World} {g : Nat} {bs : List UInt8}
theorem BytesAt.lt (h : BytesAt w g bs) : g < w.heap.size := by
  obtain ⟨cs, t, m, h, -⟩ := h
  exact (Array.getElem?_eq_some_iff.1 h).1
theorem BytesAt.cell (h : BytesAt w g bs) (i : Nat) (hi : i < bs.length) : w.cell? ⟨g, i, none⟩ = some (.int .u8 (bs[i].toNat : Int)) := by
  obtain ⟨cs, t, m, h, -, hc⟩ := h
  rw [cell_of_row w g i cs t _ h]
  exact hc i hi
theorem BytesAt.frozen (h : BytesAt w g bs) (i : Nat) (hi : i < bs.length) : w.frozen? ⟨g, i, none⟩ = false := by
  obtain ⟨cs, t, m, h, hm, -⟩ := h
  simp [World.frozen?, h]
  omega
theorem BytesAt.ext (h : BytesAt w g bs) (hx : Ext w w') : BytesAt w' g bs := by
  have hl := h.lt
  obtain ⟨cs, t, m, h, r⟩ := h
  exact ⟨cs, t, m, (Below.block hx g hl).trans h, r⟩
theorem BytesAt.set (h : BytesAt w g bs) (i : Nat) (c : UInt8) : BytesAt (w.setCell ⟨g, i, none⟩ (.int .u8 (c.toNat : Int))) g (bs.set i c) := by
  obtain ⟨cs, t, m, h, hm, hc⟩ := h
  refine ⟨cs.setIfInBounds i (.int .u8 (c.toNat : Int)), t, m, by simp [World.setCell, Array.getElem?_modify, h], by simpa using hm, fun j hj => ?_⟩
  rw [List.length_set] at hj
  have hcj := hc j hj
  rw [Array.getElem?_setIfInBounds, List.getElem_set]
  split
  · rename_i e
    subst e
    have := (Array.getElem?_eq_some_iff.1 hcj).1
    rw [if_pos this]
  · exact hcj
theorem BytesAt.reads (h : BytesAt w g bs) : Reads w w.heap.size 1 (some ⟨g, 0, none⟩) bs.length (bytesV bs) := by
  refine ⟨by simp [bytesV], fun _ => ⟨_, rfl, h.lt, fun j u hu => ?_⟩⟩
  rw [add_lit, Nat.zero_add]
  obtain ⟨hj, e⟩ := List.getElem?_eq_some_iff.1 hu
  have hj' : j < bs.length := by simpa [bytesV] using hj
  rw [h.cell j hj']
  simpa [bytesV] using e
theorem BytesAt.made (w : World) (l : List UInt8) (e : TypeId) (cap : Nat) : BytesAt (w.drew.alloc (.cells (bytesRow (str l) cap) e ((bytesRow (str l) cap).size, (bytesRow (str l) cap).size + 1))) w.heap.size l := by
  refine ⟨_, e, _, heap_alloc_new w.drew _, by simp [bytesRow, str], fun i hi => ?_⟩
  rw [bytesRow_at (str l) cap i (by simpa [str] using hi)]
  simp [str]
end
theorem u8_mod (c : UInt8) : ((c.toNat : Int) % 95) = ((c % 95).toNat : Int) := by
  rw [UInt8.toNat_mod]; rfl
def PrnRel (w : World) (g : Nat) (l : List UInt8) (v : Value) (wr : World) : Prop := ∃ k : Nat, k ≤ l.length ∧ v = .int .i64 k ∧ BytesAt wr g (prnL (l.take k) ++ l.drop k) ∧ Ext w wr
theorem prn_next (l : List UInt8) (k : Nat) (h : k < l.length) : (prnL (l.take k) ++ l.drop k).set k (prnC l[k]) = prnL (l.take (k + 1)) ++ l.drop (k + 1) := by
  have hl : (prnL (l.take k)).length = k := by simp [prnL]; omega
  rw [List.set_append_right _ _ (by omega), hl, Nat.sub_self, List.drop_eq_getElem_cons h, List.set_cons_zero, List.take_succ_eq_append_getElem h]
  unfold prnL
  rw [List.map_append, List.append_assoc]
  rfl
set_option maxHeartbeats 8000000 in
theorem printable_any (l : List UInt8) (hl : l.length ≤ 9223372036854775807) (many : Nat) (hm : many ≤ 1000) (w : World) :
    Calls Tryd.prog 6 #[.string (str l), .int .i64 (many : Int)] w fun e w' => e = .returned (.string (str (prnL (l.take many)))) ∧ Ext w w' := by
  obtain ⟨k, hk, hkl, hk2⟩ : ∃ k, min l.length many = k ∧ k ≤ l.length ∧ l.take many = l.take k := ⟨_, rfl, Nat.min_le_left _ _, by
    rcases Nat.le_total l.length many with h | h
    · rw [Nat.min_eq_left h, List.take_of_length_le h, List.take_length]
    · rw [Nat.min_eq_right h]⟩
  rw [hk2]
  have hsl := fun W => str_to (P := Tryd.prog) (T := 9) Tryd.underlying9 l hkl W
  have hk6 : k ≤ 1000 := by omega
  have hls : (str l).size = l.length := str_size l
  have hif : min (l.length : Int) (many : Int) = (k : Int) := by omega
  obtain ⟨b, hb⟩ : ∃ b, l.take k = b := ⟨_, rfl⟩
  have hbl : b.length = k := by rw [← hb]; simp; omega
  have HBL := hide hbl
  rw [hb] at hsl ⊢
  have HCV := hide (fun (w : World) => run_bytes_of_string (P := Tryd.prog) w 9 51 5 (str b) Tryd.underlying9 Tryd.underlying51 Tryd.underlying5)
  have hcv := HCV.out w
  have HMA := hide (BytesAt.made w b 5 (grownCap w (str b).size 0 5))
  have HXA := hide (((Ext.refl w).drew).alloc (.cells (bytesRow (str b) (grownCap w (str b).size 0 5)) 5 ((bytesRow (str b) (grownCap w (str b).size 0 5)).size, (bytesRow (str b) (grownCap w (str b).size 0 5)).size + 1)))
  have hbs : (str b).size = k := by rw [str_size, hbl]
  rw [hbs] at hcv HMA HXA
  generalize grownCap w k 0 5 = cap at *
  generalize w.drew.alloc (.cells (bytesRow (str b) cap) 5 ((bytesRow (str b) cap).size, (bytesRow (str b) cap).size + 1)) = W at *
  clear hb hbl hk hbs
  go_enter Tryd.func6, Tryd.ntmps6
  go_wp2_with fail
  clear hsl hif hcv hls
  go_loopw [17] (PrnRel w w.heap.size b) (fun i _ => k - (intOf i).toNat)
  case atStart => exact ⟨0, Nat.zero_le _, rfl, HMA.out, HXA.out⟩
  case round =>
    obtain ⟨j, hj, rfl, hat, hx⟩ := hrel
    rw [HBL.out] at hj
    have HAT := hide hat
    have HX := hide hx
    have hlen : (prnL (b.take j) ++ b.drop j).length = k := by have := HBL.out; simp [prnL]; omega
    have HLEN := hide hlen
    by_cases hlt : j < k
    · have hjb : j < b.length := by rw [HBL.out]; exact hlt
      have c0 := hat.cell j (by rw [hlen]; exact hlt)
      have f0 := hat.frozen j (by rw [hlen]; exact hlt)
      have hget : (prnL (b.take j) ++ b.drop j)[j]'(by rw [hlen]; exact hlt) = b[j] := by
        have hl : (prnL (b.take j)).length = j := by simp [prnL]; omega
        rw [List.getElem_append_right (by omega)]
        simp [hl]
      rw [hget] at c0
      have hv := prnC_toNat b[j]
      have h95 : ((b[j].toNat : Int) % 95) = ((b[j].toNat % 95 : Nat) : Int) := by omega
      have hwr : IntKind.u8.wrap (32 + ((b[j].toNat % 95 : Nat) : Int)) = ((prnC b[j]).toNat : Int) := by rw [hv, IntKind.wrap_u8]; have := Nat.mod_lt b[j].toNat (show 95 > 0 by decide); omega
      have HN := hide (prn_next b j hjb)
      have HSET := hide (HAT.out.set j (prnC b[j]))
      rw [HN.out] at HSET
      have HXS := hide (HX.out.setCell (p := ⟨w.heap.size, j, none⟩) (Nat.le_refl _) (.int .u8 ((prnC b[j]).toNat : Int)))
      have hpos : (0 : Int) ≤ (b[j].toNat : Int) := by omega
      have hlt8 : b[j].toNat < 256 := b[j].toNat_lt
      have hv2 : ((prnC b[j]).toNat : Int) = 32 + ((b[j].toNat % 95 : Nat) : Int) := by rw [hv]; omega
      generalize (prnC b[j]).toNat = y at *
      generalize b[j].toNat = x at *
      have HV2 := hide hv2
      clear hat hx hget hv hlen HN hjb hv2 hwr h95
      go_wp2_with fail
      go_roundw
      case rel => exact ⟨j + 1, by rw [HBL.out]; omega, by go_num, by have := HSET.out; rw [HV2.out] at this; exact this, by have := HXS.out; rw [HV2.out] at this; exact this⟩
      case measure => simp [intOf]; omega
    · obtain rfl : j = k := by omega
      have he : prnL (b.take j) ++ b.drop j = prnL b := by rw [List.take_of_length_le (by rw [HBL.out]; exact Nat.le_refl _), List.drop_of_length_le (by rw [HBL.out]; exact Nat.le_refl _), List.append_nil]
      have hrd := hat.reads
      rw [he] at hrd
      have hpl : (prnL b).length = j := by have := HBL.out; simpa [prnL] using this
      rw [hpl] at hrd
      have hcv := conv_str' (P := Tryd.prog) (src := 51) (dst := 9) Tryd.underlying51 Tryd.underlying5 Tryd.underlying9 hrd cap
      clear hat hx hlen hrd he hpl
      go_wp2_with fail
      go_ret
      exact ⟨rfl, HX.out⟩

end Go.Proofs.YtapjfiifpfoppaaDoor
