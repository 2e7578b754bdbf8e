/- The contracts of code.Number, code.Fields, code.Name, asm.near. -/
import Derived.Test.YtikbfmjhmjkkgaaDoorAmCode
namespace Go.Proofs.YtikbfmjhmjkkgaaDoor
open Go.RowKit
set_option linter.unusedVariables false

theorem rowN_get (k : Nat) (h1 : 1 ≤ k) (h : k ≤ 26) : rowsL[k - 1]? = some (rowN k) := by
  have hl : k - 1 < rowsL.length := by show k - 1 < 26; omega
  unfold rowN
  rw [if_neg (by omega), List.getD_eq_getElem?_getD, List.getElem?_eq_getElem hl]
  rfl
theorem numOf_row : ∀ k : Fin 27, k.val ≠ 0 → numOf (rowN k.val).1 = k.val := by decide +kernel
theorem numOf_hit (k : Nat) (h1 : 1 ≤ k) (h : k ≤ 26) (s : Bs) (hs : (rowN k).1 = s) : numOf s = k := by
  rw [← hs]
  exact numOf_row ⟨k, by omega⟩ (by show k ≠ 0; omega)
theorem numOf_miss (s : Bs) (h : ∀ j, 1 ≤ j → j ≤ 26 → (rowN j).1 ≠ s) : numOf s = 0 := by
  unfold numOf
  split
  · rename_i hlt
    have hl : rowsL.findIdx (fun r => r.1 == s) < rowsL.length := hlt
    have h0 := List.findIdx_getElem (w := hl)
    have h1 := rowN_get (rowsL.findIdx (fun r => r.1 == s) + 1) (by omega) (by omega)
    rw [Nat.add_sub_cancel, List.getElem?_eq_getElem hl] at h1
    injection h1 with h1
    rw [h1] at h0
    exact absurd (by simpa using h0) (h _ (by omega) (by omega))
  · rfl
theorem numOf_bound (s : Bs) : numOf s ≤ 26 := by unfold numOf; split <;> omega
theorem numOf_name (s : Bs) (h : numOf s ≠ 0) : (rowN (numOf s)).1 = s := by
  apply Classical.byContradiction
  intro hn
  apply h
  apply numOf_miss
  intro j h1 h2 hj
  have := numOf_hit j h1 h2 s hj
  rw [this] at hn
  exact hn hj
theorem rowN_name : ∀ k : Fin 27, k.val ≠ 0 → (rowN k.val).1 ≠ [] := by decide +kernel
theorem rowN_bits : ∀ k : Fin 27, (rowN k.val).2 ≤ 7 := by decide +kernel
theorem rowN_le (op : Nat) : (rowN op).2 ≤ 7 := by
  by_cases h : op < 27
  · exact rowN_bits ⟨op, h⟩
  · have : rowN op = ([], 0) := by
      unfold rowN
      rw [if_neg (by omega), List.getD_eq_getElem?_getD, List.getElem?_eq_none (by show 26 ≤ op - 1; omega)]; rfl
    rw [this]
    exact Nat.zero_le _
/-- What Number answers beside the number. -/
def numE (s : Bs) : Int := if numOf s = 0 then 4 else 0
theorem str_eq_iff (a b : Bs) : ((str a).toList == (str b).toList) = decide (a = b) := by
  rw [Go.Lib.toList_data, Go.Lib.toList_data, str_list, str_list]
  by_cases h : a = b
  · subst h; simp
  · rw [decide_eq_false h]; simpa using h
def NuRel (w : World) (s : Bs) (v : Value) (wr : World) : Prop := ∃ k : Nat, 1 ≤ k ∧ k ≤ 27 ∧ v = .int .i64 (k : Int) ∧ wr = w ∧ ∀ j, 1 ≤ j → j < k → (rowN j).1 ≠ s
set_option maxHeartbeats 2000000 in
set_option maxRecDepth 100000 in
theorem number_any (s : Bs) (w : World) : Calls Tryd.prog 52 #[.string (str s)] w fun e w' => e = .returned (.tuple #[.int .i64 (numOf s : Int), .int .i64 (numE s)]) ∧ w = w' := by
  have HE := hide (show numE s = if numOf s = 0 then 4 else 0 from rfl)
  go_enter Tryd.func52, Tryd.ntmps52
  go_wp2_with fail
  go_loopw [4] (NuRel w s) (fun v _ => 27 - (intOf v).toNat)
  case atStart => exact ⟨1, by omega, by omega, rfl, rfl, fun j h1 h2 => by omega⟩
  case round =>
    obtain ⟨k, hk1, hk, rfl, rfl, hno⟩ := hrel
    have HNO := hide hno
    clear hno
    by_cases h26 : k ≤ 26
    · have t1 : decide ((k : Int) ≤ 26) = true := decide_eq_true (by omega)
      go_wp2_with fail
      refine (row_at k wr).mono ?_
      rintro e w' ⟨rfl, rfl⟩
      by_cases hs : (rowN k).1 = s
      · have t2 : ((str (rowN k).1).toList == (str s).toList) = true := by rw [str_eq_iff, decide_eq_true hs]
        have HN := hide (numOf_hit k hk1 h26 s hs)
        generalize str (rowN k).1 = X at *
        generalize (rowN k).2 = F at *
        clear hs
        go_wp2_with fail
        go_ret2
        refine ⟨?_, rfl⟩
        show Ending.returned (.tuple #[.int .i64 (k : Int), .int .i64 0]) = .returned (.tuple #[.int .i64 (numOf s : Int), .int .i64 (numE s)])
        rw [HE.out, HN.out, if_neg (by omega)]
      · have t2 : ((str (rowN k).1).toList == (str s).toList) = false := by rw [str_eq_iff, decide_eq_false hs]
        have HNE := hide hs
        generalize str (rowN k).1 = X at *
        generalize (rowN k).2 = F at *
        clear hs
        go_wp2_with fail
        go_roundw
        case rel => exact ⟨k + 1, by omega, by omega, by go_num, rfl, fun j h1 h2 => by
          by_cases e : j = k
          · rw [e]; exact HNE.out
          · exact HNO.out j h1 (by omega)⟩
        case measure => simp [intOf]; omega
    · have t1 : decide ((k : Int) ≤ 26) = false := decide_eq_false (by omega)
      have HN := hide (numOf_miss s (fun j h1 h2 => HNO.out j h1 (by omega)))
      go_wp2_with fail
      go_ret2
      refine ⟨?_, rfl⟩
      show Ending.returned (.tuple #[.int .i64 0, .int .i64 4]) = .returned (.tuple #[.int .i64 (numOf s : Int), .int .i64 (numE s)])
      rw [HE.out, HN.out]
      rfl
set_option maxHeartbeats 2000000 in
set_option maxRecDepth 100000 in
theorem fields_op (op : Nat) (h1 : 1 ≤ op) (h : op ≤ 26) (w : World) : Calls Tryd.prog 24 #[.int .i64 (op : Int)] w fun e w' => e = .returned (.tuple #[.int .i64 ((rowN op).2 : Int), .int .i64 0]) ∧ w = w' := by
  have t2 : (str (rowN op).1).toList.isEmpty = false := by
    rw [Go.Lib.toList_data, str_list]
    cases hr : (rowN op).1 with
    | nil => exact absurd hr (rowN_name ⟨op, by omega⟩ (by show op ≠ 0; omega))
    | cons a l => rfl
  go_enter Tryd.func24, Tryd.ntmps24
  go_wp2_with fail
  refine (row_at op w).mono ?_
  rintro e w' ⟨rfl, rfl⟩
  generalize str (rowN op).1 = X at *
  go_wp2_with fail
  go_ret2
  exact ⟨rfl, rfl⟩
set_option maxHeartbeats 2000000 in
set_option maxRecDepth 100000 in
theorem name_op (op : Nat) (h1 : 1 ≤ op) (h : op ≤ 26) (w : World) : Calls Tryd.prog 23 #[.int .i64 (op : Int)] w fun e w' => e = .returned (.tuple #[.string (str (rowN op).1), .int .i64 0]) ∧ w = w' := by
  have t2 : (str (rowN op).1).toList.isEmpty = false := by
    rw [Go.Lib.toList_data, str_list]
    cases hr : (rowN op).1 with
    | nil => exact absurd hr (rowN_name ⟨op, by omega⟩ (by show op ≠ 0; omega))
    | cons a l => rfl
  go_enter Tryd.func23, Tryd.ntmps23
  go_wp2_with fail
  refine (row_at op w).mono ?_
  rintro e w' ⟨rfl, rfl⟩
  go_wp2_with fail
  go_ret2
  exact ⟨rfl, rfl⟩
set_option maxHeartbeats 2000000 in
set_option maxRecDepth 100000 in
theorem near_op (op : Nat) (w : World) : Calls Tryd.prog 54 #[.int .i64 (op : Int)] w fun e w' => e = .returned (.bool (nearB op)) ∧ w = w' := by
  have HB := hide (show nearB op = decide (op = 19 ∨ op = 20 ∨ op = 21 ∨ op = 22) from rfl)
  by_cases h1 : op = 19
  · subst h1
    go_enter Tryd.func54, Tryd.ntmps54
    go_wp2_with fail
    go_ret
    exact ⟨rfl, rfl⟩
  by_cases h2 : op = 20
  · subst h2
    go_enter Tryd.func54, Tryd.ntmps54
    go_wp2_with fail
    go_ret
    exact ⟨rfl, rfl⟩
  by_cases h3 : op = 21
  · subst h3
    go_enter Tryd.func54, Tryd.ntmps54
    go_wp2_with fail
    go_ret
    exact ⟨rfl, rfl⟩
  by_cases h4 : op = 22
  · subst h4
    go_enter Tryd.func54, Tryd.ntmps54
    go_wp2_with fail
    go_ret
    exact ⟨rfl, rfl⟩
  have u1 : ((op : Int) == 19) = false := by simp; omega
  have u2 : ((op : Int) == 20) = false := by simp; omega
  have u3 : ((op : Int) == 21) = false := by simp; omega
  have u4 : ((op : Int) == 22) = false := by simp; omega
  rw [decide_eq_false (by omega)] at HB
  clear h1 h2 h3 h4
  generalize (op : Int) = z at *
  go_enter Tryd.func54, Tryd.ntmps54
  go_wp2_with fail
  go_ret
  refine ⟨?_, rfl⟩
  rw [HB.out]
  rfl
end Go.Proofs.YtikbfmjhmjkkgaaDoor
