/- '[]byte(s)' of a string that is no constant. Plain theorems. -/
import Derived.Test.YtjmonkacijncbaaGreatDoorStr
import Derived.Lib.ConvBytes
import Derived.Laws.AppendOwn
namespace Go.Proofs.YtjmonkacijncbaaGreatDoor
open Go.RowKit
set_option linter.unusedVariables false

theorem bytesWorld_ext (W : World) (e : TypeId) (s : ByteArray) : Ext W (Lib.bytesWorld W e s) :=
  Ext.of ⟨rfl, rfl, rfl, by rw [Lib.bytesWorld_size]; omega, fun j hj => Lib.bytesWorld_at_old W e s j hj⟩
theorem conv_bytes (W : World) (l : List UInt8) (hl : l.length ≤ 1000000) :
    ∃ (g c : Nat) (W' : World), (convert 9 22 (.string (str l))).run Tryz.prog W = .ok (.slice (some ⟨g, 0, none⟩) l.length c) W' ∧ l.length ≤ c ∧ c ≤ maxLen ∧ Reads W' W'.heap.size 1 (some ⟨g, 0, none⟩) l.length (bytesV l) ∧ W.heap.size ≤ g ∧ Ext W W' := by
  have h := Lib.run_convert_string_bytes (P := Tryz.prog) W 9 22 5 (str l) Tryz.underlying9 Tryz.underlying22 Tryz.underlying5
  rw [str_size] at h
  refine ⟨W.heap.size, _, _, h, grownCap_ge _ _ _ _, grownCap_le_maxLen _ _ _ _ (by simp only [maxLen]; omega), ⟨by rw [bytesV_length]; omega, fun _ => ⟨_, rfl, by rw [Lib.bytesWorld_size]; exact Nat.lt_succ_self _, fun j u hu => ?_⟩⟩, Nat.le_refl _, bytesWorld_ext _ _ _⟩
  have hj : j < l.length := by
    have := (List.getElem?_eq_some_iff.1 hu).1
    rw [bytesV_length] at this
    exact this
  rw [add_lit, Nat.zero_add, Lib.bytesWorld_cell W _ (str l) j (by rw [str_size]; exact hj)]
  have e1 : (str l).data.toList = l := by simp [str]
  rw [e1]
  simp [bytesV, hj, List.getD_eq_getElem?_getD] at hu ⊢
  exact hu
theorem conv_run (l : List UInt8) (W : World) : (convert 9 22 (.string (str l))).run Tryz.prog W = .ok (.slice (some ⟨W.heap.size, 0, none⟩) l.length (grownCap W l.length 0 5)) (Lib.bytesWorld W 5 (str l)) := by
  have h := Lib.run_convert_string_bytes (P := Tryz.prog) W 9 22 5 (str l) Tryz.underlying9 Tryz.underlying22 Tryz.underlying5
  rw [str_size] at h
  exact h
theorem conv_reads (l : List UInt8) (W : World) : Reads (Lib.bytesWorld W 5 (str l)) (Lib.bytesWorld W 5 (str l)).heap.size 1 (some ⟨W.heap.size, 0, none⟩) l.length (bytesV l) := by
  refine ⟨by rw [bytesV_length]; omega, fun _ => ⟨_, rfl, by rw [Lib.bytesWorld_size]; exact Nat.lt_succ_self _, fun j u hu => ?_⟩⟩
  have hj : j < l.length := by
    have := (List.getElem?_eq_some_iff.1 hu).1
    rw [bytesV_length] at this
    exact this
  rw [add_lit, Nat.zero_add, Lib.bytesWorld_cell W _ (str l) j (by rw [str_size]; exact hj)]
  have e1 : (str l).data.toList = l := by simp [str]
  rw [e1]
  simp [bytesV, hj, List.getD_eq_getElem?_getD] at hu ⊢
  exact hu
end Go.Proofs.YtjmonkacijncbaaGreatDoor
