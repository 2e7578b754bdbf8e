/- The contracts of words.first, Name and op, and of strings.IndexByte, strings.HasPrefix. -/
import Derived.Test.YtjbgkcljjgofnaaDoorWPlain
import Derived.WalkKit
import Derived.WalkSpells
import Derived.ProofKit
import Derived.BigQuiet
import Derived.Laws.Strings2
import Derived.Laws.Strings3
import Derived.Lib.Strings
import Derived.Lib.Bytealg
import Derived.Deep.QuietTactic
import Derived.Deep.CutBlock
import Derived.Deep.DeepCutAuto
namespace Go.Proofs.YtjbgkcljjgofnaaDoor
open Go.RowKit
set_option linter.unusedVariables false

section
variable {P : Program}
theorem str_toList (l : List UInt8) : (str l).data.toList = l := by simp [str]
/-- One byte of a string, as an equation for the walk. -/
theorem str_index {T : TypeId} (hT : P.underlying T = some .string) {l : List UInt8} {k : Nat} {c : UInt8} (h : l[k]? = some c) (W : World) : (Instr.index T (.string (str l)) (.int .i64 (k : Int))).run P W = .ok (.int .u8 (c.toNat : Int)) W := by
  obtain ⟨hk, rfl⟩ := List.getElem?_eq_some_iff.1 h
  have hs : k < (str l).size := by rw [str_size]; exact hk
  rw [run_index_string W T (str l) .i64 (k : Int) hT, dif_pos ⟨by omega, by omega⟩]
  rfl
theorem str_from {T : TypeId} (hT : P.underlying T = some .string) (l : List UInt8) {k : Nat} (h : k ≤ l.length) (W : World) : (Instr.slice T (.string (str l)) (some (.int .i64 (k : Int))) none none).run P W = .ok (.string (str (l.drop k))) W := by
  rw [run_slice_string_from_if W T (str l) .i64 (k : Int) hT, if_pos ⟨by omega, by rw [str_size]; omega⟩]
  rw [Int.toNat_natCast, str_size]
  congr 2
  rw [str, ByteArray.extract_mk, str, List.take_of_length_le (by simp)]
theorem str_cut {T : TypeId} (hT : P.underlying T = some .string) (l : List UInt8) {j k : Nat} (hj : j ≤ k) (h : k ≤ l.length) (W : World) : (Instr.slice T (.string (str l)) (some (.int .i64 (j : Int))) (some (.int .i64 (k : Int))) none).run P W = .ok (.string (str ((l.drop j).take (k - j)))) W := by
  rw [run_slice_string W T (str l) .i64 .i64 (j : Int) (k : Int) hT (by omega) (by omega) (by rw [str_size]; omega)]
  rw [Int.toNat_natCast, Int.toNat_natCast]
  congr 2
  rw [str, ByteArray.extract_mk, str]
end
theorem firstC_def (c : UInt8) : firstC c = decide (c.toNat = 95 ∨ (97 ≤ c.toNat ∧ c.toNat ≤ 122) ∨ (65 ≤ c.toNat ∧ c.toNat ≤ 90)) := rfl
set_option maxHeartbeats 1000000 in
theorem first_any (c : UInt8) (w : World) : Calls Tryd.prog 48 #[.int .u8 (c.toNat : Int)] w fun e w' => e = .returned (.bool (firstC c)) ∧ w = w' := by
  have HD := hide (firstC_def c)
  generalize firstC c = b at *
  generalize c.toNat = x at *
  have tb : ∀ p q : Prop, (p → q) → p → q := fun p q h => h
  clear tb
  by_cases h1 : x = 95
  · subst h1
    go_enter Tryd.func48, Tryd.ntmps48
    go_wp2_with fail
    go_ret
    exact ⟨by rw [HD.out]; rfl, rfl⟩
  have t1 : ((x : Int) == 95) = false := by simpa using (fun e : (x : Int) = 95 => h1 (by omega))
  by_cases h2 : 97 ≤ x
  · by_cases h3 : x ≤ 122
    · have t2 : decide (97 ≤ (x : Int)) = true := by simpa using (show (97 : Int) ≤ x by omega)
      have t3 : decide ((x : Int) ≤ 122) = true := by simpa using (show (x : Int) ≤ 122 by omega)
      go_enter Tryd.func48, Tryd.ntmps48
      go_wp2_with fail
      go_ret
      refine ⟨?_, rfl⟩
      rw [show b = true from by rw [HD.out]; exact decide_eq_true (by omega)]; rfl
    · have t4 : decide ((x : Int) ≤ 90) = false := by simpa using (show (90 : Int) < x by omega)
      have t3 : decide ((x : Int) ≤ 122) = false := by simpa using (show (122 : Int) < x by omega)
      go_enter Tryd.func48, Tryd.ntmps48
      go_wp2_with fail
      go_ret
      refine ⟨?_, rfl⟩
      rw [show b = false from by rw [HD.out]; exact decide_eq_false (by omega)]; rfl
  · by_cases h3 : 65 ≤ x
    · by_cases h4 : x ≤ 90
      · have t4 : decide ((x : Int) ≤ 90) = true := by simpa using (show (x : Int) ≤ 90 by omega)
        go_enter Tryd.func48, Tryd.ntmps48
        go_wp2_with fail
        go_ret
        refine ⟨?_, rfl⟩
        rw [show b = true from by rw [HD.out]; exact decide_eq_true (by omega)]; rfl
      · have t4 : decide ((x : Int) ≤ 90) = false := by simpa using (show (90 : Int) < x by omega)
        go_enter Tryd.func48, Tryd.ntmps48
        go_wp2_with fail
        go_ret
        refine ⟨?_, rfl⟩
        rw [show b = false from by rw [HD.out]; exact decide_eq_false (by omega)]; rfl
    · go_enter Tryd.func48, Tryd.ntmps48
      go_wp2_with fail
      go_ret
      refine ⟨?_, rfl⟩
      rw [show b = false from by rw [HD.out]; exact decide_eq_false (by omega)]; rfl
set_option maxHeartbeats 1000000 in
set_option maxRecDepth 100000 in
theorem idxLite_any (s : ByteArray) (c : Int) (w : World) :
    Calls Tryd.prog 47 #[.string s, .int .u8 c] w fun e w' => e = .returned (.int .i64 (Lib.indexByte s.data.toList c.toNat.toUInt8)) ∧ w = w' := by
  go_enter Tryd.func47, Tryd.ntmps47
  go_wp2
  rw [run_callFunc_extern Tryd.func54 (by kernel_rfl) (by kernel_rfl) (by kernel_rfl) (e := Extern.BytealgIndexByte.indexByte) (by kernel_rfl), Lib.run_indexByteString]
  simp only [Result.andThen]
  rw [Oper.upon_value]
  go_wp2
  go_ret
  exact ⟨rfl, rfl⟩
theorem idx_any (l : List UInt8) (c : Nat) (w : World) :
    Calls Tryd.prog 40 #[.string (str l), .int .u8 (c : Int)] w fun e w' => e = .returned (.int .i64 (Lib.indexByte l c.toUInt8)) ∧ w = w' := by
  have h := idxLite_any (str l) (c : Int) w
  rw [str_toList, Int.toNat_natCast] at h
  have H := hide h
  clear h
  go_enter Tryd.func40, Tryd.ntmps40
  go_wp2_with fail
  refine H.out.mono ?_
  rintro e w' ⟨rfl, rfl⟩
  go_wp2_with fail
  go_ret
  exact ⟨rfl, rfl⟩
theorem pfxLite_any (s p : ByteArray) (w : World) :
    Calls Tryd.prog 39 #[.string s, .string p] w fun e w' => e = .returned (.bool (Lib.hasPrefix s.data.toList p.data.toList)) ∧ w = w' := by
  rw [← Lib.hasPrefix_raw]
  go_enter Tryd.func39, Tryd.ntmps39
  go_wp2
  · rename_i h
    go_ret
    refine ⟨?_, rfl⟩
    simp [h]
  · rename_i h
    go_ret
    refine ⟨?_, rfl⟩
    simp [h]
theorem pfx_any (l p : List UInt8) (w : World) :
    Calls Tryd.prog 30 #[.string (str l), .string (str p)] w fun e w' => e = .returned (.bool (p.isPrefixOf l)) ∧ w = w' := by
  have h := pfxLite_any (str l) (str p) w
  rw [str_toList, str_toList] at h
  have H := hide h
  clear h
  go_enter Tryd.func30, Tryd.ntmps30
  go_wp2_with fail
  refine H.out.mono ?_
  rintro e w' ⟨rfl, rfl⟩
  go_wp2_with fail
  go_ret
  exact ⟨rfl, rfl⟩
end Go.Proofs.YtjbgkcljjgofnaaDoor
