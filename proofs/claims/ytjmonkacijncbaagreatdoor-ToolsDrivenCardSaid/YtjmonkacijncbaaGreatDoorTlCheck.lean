/- The contract of tools.Check at each program with arguments that may be. -/
import Derived.Test.YtjmonkacijncbaaGreatDoorTlLib
namespace Go.Proofs.YtjmonkacijncbaaGreatDoor
open Go.RowKit
set_option linter.unusedVariables false

def namesL : List Bs := [[99, 97, 116], [99, 117, 116], [101, 99, 104, 111], [102, 97, 108, 115, 101], [103, 114, 101, 112], [104, 101, 97, 100], [110, 108], [115, 111, 114, 116], [116, 97, 99], [116, 97, 105, 108], [116, 114], [117, 110, 105, 113], [119, 99]]
theorem names_any (w : World) : Calls Tryz.prog 33 #[] w fun e w' => e = .returned (.slice (some ⟨w.heap.size, 0, none⟩) 13 13) ∧ w' = w.alloc (.cells (strsV namesL).toArray 9) := by
  go_enter Tryz.func33, Tryz.ntmps33
  go_wp2_with fail
  go_ret
  exact ⟨rfl, rfl⟩
theorem contains_names (nm : Bs) (h : Lib.containsS ((namesL.map str).take 13) (str nm) = true) (w : World) :
    Calls Tryz.prog 63 #[.slice (some ⟨w.heap.size, 0, none⟩) 13 13, .string (str nm)] (w.alloc (.cells (strsV namesL).toArray 9)) fun e w' => e = .returned (.bool true) ∧ w' = w.alloc (.cells (strsV namesL).toArray 9) := by
  have hb := Blk.new w 9 (strsV namesL).toArray
  have := Tryz.slices_Contains_string w.heap.size 0 13 13 (namesL.map str) (str nm) (w.alloc (.cells (strsV namesL).toArray 9)) (by decide) (by decide) (fun j hj => by
    rw [Nat.zero_add, hb.cell j]
    have hj' : j < namesL.length := by simpa using hj
    simp [strsV, hj', List.getD_eq_getElem?_getD])
  rw [h] at this
  exact this
def CheckAt (nm : Bs) (args : List Bs) : Prop := ∀ (w : World) (A : Option Addr) (n c B : Nat), LibOk w → Reads w B 1 A n (strsV args) → B ≤ w.heap.size → n ≤ c →
  Calls Tryz.prog 34 #[.string (str nm), .slice A n c] w fun e w' => e = .returned (.int .i64 0) ∧ Ext w w'
theorem args_len {w : World} {B n : Nat} {A : Option Addr} {L : List Bs} (h : Reads w B 1 A n (strsV L)) : n = L.length := by
  have := h.1
  rw [strsV_length] at this
  omega
theorem arg_cell {w : World} {B n : Nat} {A : Option Addr} {L : List Bs} (h : Reads w B 1 A n (strsV L)) (hn : 0 < n) : ∃ b off, A = some ⟨b, off, none⟩ ∧ b < B ∧ ∀ j x, L[j]? = some x → w.cell? ⟨b, off + j, none⟩ = some (.string (str x)) := by
  obtain ⟨b, off, rfl, hb, hc⟩ := h.at1 hn
  refine ⟨b, off, rfl, hb, fun j x hx => ?_⟩
  have hl := args_len h
  have hj : j < L.length := (List.getElem?_eq_some_iff.1 hx).1
  rw [hc j (by omega)]
  simp [strsV, (List.getElem?_eq_some_iff.1 hx).2]
set_option maxHeartbeats 4000000 in
set_option maxRecDepth 100000 in
theorem check_cat : CheckAt [99, 97, 116] [] := by
  intro w A n c B hL hr hB hc
  obtain rfl := args_len hr
  clear hr
  show Calls _ _ #[.string ⟨#[99, 97, 116]⟩, .slice A 0 c] w _
  have HC := hide (contains_names [99, 97, 116] (by kernel_rfl))
  have HX1 := hide ((Ext.refl w).alloc (.cells (strsV namesL).toArray 9))
  have HN := hide (names_any w)
  go_enter Tryz.func34, Tryz.ntmps34
  go_wp2_with fail
  refine HN.out.mono ?_
  rintro e w1 ⟨rfl, hw1⟩
  rw [hw1]
  clear hw1
  go_wp2_with fail
  refine (HC.out w).mono ?_
  rintro e w1 ⟨rfl, hw1⟩
  rw [← hw1] at HX1
  clear hw1
  go_wp2_with fail
  go_ret
  exact ⟨rfl, HX1.out⟩
set_option maxHeartbeats 4000000 in
set_option maxRecDepth 100000 in
theorem check_false_ : CheckAt [102, 97, 108, 115, 101] [] := by
  intro w A n c B hL hr hB hc
  obtain rfl := args_len hr
  clear hr
  show Calls _ _ #[.string ⟨#[102, 97, 108, 115, 101]⟩, .slice A 0 c] w _
  have HC := hide (contains_names [102, 97, 108, 115, 101] (by kernel_rfl))
  have HX1 := hide ((Ext.refl w).alloc (.cells (strsV namesL).toArray 9))
  have HN := hide (names_any w)
  go_enter Tryz.func34, Tryz.ntmps34
  go_wp2_with fail
  refine HN.out.mono ?_
  rintro e w1 ⟨rfl, hw1⟩
  rw [hw1]
  clear hw1
  go_wp2_with fail
  refine (HC.out w).mono ?_
  rintro e w1 ⟨rfl, hw1⟩
  rw [← hw1] at HX1
  clear hw1
  go_wp2_with fail
  go_ret
  exact ⟨rfl, HX1.out⟩
set_option maxHeartbeats 4000000 in
set_option maxRecDepth 100000 in
theorem check_nl : CheckAt [110, 108] [] := by
  intro w A n c B hL hr hB hc
  obtain rfl := args_len hr
  clear hr
  show Calls _ _ #[.string ⟨#[110, 108]⟩, .slice A 0 c] w _
  have HC := hide (contains_names [110, 108] (by kernel_rfl))
  have HX1 := hide ((Ext.refl w).alloc (.cells (strsV namesL).toArray 9))
  have HN := hide (names_any w)
  go_enter Tryz.func34, Tryz.ntmps34
  go_wp2_with fail
  refine HN.out.mono ?_
  rintro e w1 ⟨rfl, hw1⟩
  rw [hw1]
  clear hw1
  go_wp2_with fail
  refine (HC.out w).mono ?_
  rintro e w1 ⟨rfl, hw1⟩
  rw [← hw1] at HX1
  clear hw1
  go_wp2_with fail
  go_ret
  exact ⟨rfl, HX1.out⟩
set_option maxHeartbeats 4000000 in
set_option maxRecDepth 100000 in
theorem check_sort : CheckAt [115, 111, 114, 116] [] := by
  intro w A n c B hL hr hB hc
  obtain rfl := args_len hr
  clear hr
  show Calls _ _ #[.string ⟨#[115, 111, 114, 116]⟩, .slice A 0 c] w _
  have HC := hide (contains_names [115, 111, 114, 116] (by kernel_rfl))
  have HX1 := hide ((Ext.refl w).alloc (.cells (strsV namesL).toArray 9))
  have HN := hide (names_any w)
  go_enter Tryz.func34, Tryz.ntmps34
  go_wp2_with fail
  refine HN.out.mono ?_
  rintro e w1 ⟨rfl, hw1⟩
  rw [hw1]
  clear hw1
  go_wp2_with fail
  refine (HC.out w).mono ?_
  rintro e w1 ⟨rfl, hw1⟩
  rw [← hw1] at HX1
  clear hw1
  go_wp2_with fail
  go_ret
  exact ⟨rfl, HX1.out⟩
set_option maxHeartbeats 4000000 in
set_option maxRecDepth 100000 in
theorem check_tac : CheckAt [116, 97, 99] [] := by
  intro w A n c B hL hr hB hc
  obtain rfl := args_len hr
  clear hr
  show Calls _ _ #[.string ⟨#[116, 97, 99]⟩, .slice A 0 c] w _
  have HC := hide (contains_names [116, 97, 99] (by kernel_rfl))
  have HX1 := hide ((Ext.refl w).alloc (.cells (strsV namesL).toArray 9))
  have HN := hide (names_any w)
  go_enter Tryz.func34, Tryz.ntmps34
  go_wp2_with fail
  refine HN.out.mono ?_
  rintro e w1 ⟨rfl, hw1⟩
  rw [hw1]
  clear hw1
  go_wp2_with fail
  refine (HC.out w).mono ?_
  rintro e w1 ⟨rfl, hw1⟩
  rw [← hw1] at HX1
  clear hw1
  go_wp2_with fail
  go_ret
  exact ⟨rfl, HX1.out⟩
set_option maxHeartbeats 4000000 in
set_option maxRecDepth 100000 in
theorem check_uniq : CheckAt [117, 110, 105, 113] [] := by
  intro w A n c B hL hr hB hc
  obtain rfl := args_len hr
  clear hr
  show Calls _ _ #[.string ⟨#[117, 110, 105, 113]⟩, .slice A 0 c] w _
  have HC := hide (contains_names [117, 110, 105, 113] (by kernel_rfl))
  have HX1 := hide ((Ext.refl w).alloc (.cells (strsV namesL).toArray 9))
  have HN := hide (names_any w)
  go_enter Tryz.func34, Tryz.ntmps34
  go_wp2_with fail
  refine HN.out.mono ?_
  rintro e w1 ⟨rfl, hw1⟩
  rw [hw1]
  clear hw1
  go_wp2_with fail
  refine (HC.out w).mono ?_
  rintro e w1 ⟨rfl, hw1⟩
  rw [← hw1] at HX1
  clear hw1
  go_wp2_with fail
  go_ret
  exact ⟨rfl, HX1.out⟩
set_option maxHeartbeats 4000000 in
set_option maxRecDepth 100000 in
theorem check_wc : CheckAt [119, 99] [] := by
  intro w A n c B hL hr hB hc
  obtain rfl := args_len hr
  clear hr
  show Calls _ _ #[.string ⟨#[119, 99]⟩, .slice A 0 c] w _
  have HC := hide (contains_names [119, 99] (by kernel_rfl))
  have HX1 := hide ((Ext.refl w).alloc (.cells (strsV namesL).toArray 9))
  have HN := hide (names_any w)
  go_enter Tryz.func34, Tryz.ntmps34
  go_wp2_with fail
  refine HN.out.mono ?_
  rintro e w1 ⟨rfl, hw1⟩
  rw [hw1]
  clear hw1
  go_wp2_with fail
  refine (HC.out w).mono ?_
  rintro e w1 ⟨rfl, hw1⟩
  rw [← hw1] at HX1
  clear hw1
  go_wp2_with fail
  go_ret
  exact ⟨rfl, HX1.out⟩
set_option maxHeartbeats 4000000 in
set_option maxRecDepth 100000 in
theorem check_head (k : Nat) (hk : k ≤ 999) : CheckAt [104, 101, 97, 100] [Lib.itoa (k : Int)] := by
  intro w A n c B hL hr hB hc
  have HLL := hide hL
  have HJ := hide (fun W (hx : Ext w W) => join_any [Lib.itoa (k : Int)] [32] A n c B W (hx.reads hr hB) (Nat.le_trans hB hx.size) hc (by have := itoa_len (k : Int) (by omega); simp [Lib.join]; omega) (by have := args_len hr; simp at this; omega))
  have HJN := hide (show Lib.join [Lib.itoa (k : Int)] [32] = Lib.itoa (k : Int) from by simp [Lib.join])
  have HNU := hide (fun W hW => number_nat k hk W hW)
  obtain rfl := args_len hr
  clear hr hL hB
  show Calls _ _ #[.string ⟨#[104, 101, 97, 100]⟩, .slice A 1 c] w _
  have HC := hide (contains_names [104, 101, 97, 100] (by kernel_rfl))
  have HX1 := hide ((Ext.refl w).alloc (.cells (strsV namesL).toArray 9))
  have HN := hide (names_any w)
  go_enter Tryz.func34, Tryz.ntmps34
  go_wp2_with fail
  refine HN.out.mono ?_
  rintro e w1 ⟨rfl, hw1⟩
  rw [hw1]
  clear hw1
  go_wp2_with fail
  refine (HC.out w).mono ?_
  rintro e w1 ⟨rfl, hw1⟩
  rw [← hw1] at HX1
  clear hw1
  go_wp2_with fail
  refine (HJ.out w1 HX1.out).mono ?_
  rintro e w2 ⟨rfl, hx2⟩
  rw [HJN.out]
  have HX2 := hide (HX1.out.trans hx2)
  clear hx2
  go_wp2_with fail
  refine (HNU.out w2 (HLL.out.ext HX2.out)).mono ?_
  rintro e w3 ⟨rfl, hx3⟩
  have HX3 := hide (HX2.out.trans hx3)
  clear hx3
  go_wp2_with fail
  go_ret
  exact ⟨rfl, HX3.out⟩
set_option maxHeartbeats 4000000 in
set_option maxRecDepth 100000 in
theorem check_tail (k : Nat) (hk : k ≤ 999) : CheckAt [116, 97, 105, 108] [Lib.itoa (k : Int)] := by
  intro w A n c B hL hr hB hc
  have HLL := hide hL
  have HJ := hide (fun W (hx : Ext w W) => join_any [Lib.itoa (k : Int)] [32] A n c B W (hx.reads hr hB) (Nat.le_trans hB hx.size) hc (by have := itoa_len (k : Int) (by omega); simp [Lib.join]; omega) (by have := args_len hr; simp at this; omega))
  have HJN := hide (show Lib.join [Lib.itoa (k : Int)] [32] = Lib.itoa (k : Int) from by simp [Lib.join])
  have HNU := hide (fun W hW => number_nat k hk W hW)
  obtain rfl := args_len hr
  clear hr hL hB
  show Calls _ _ #[.string ⟨#[116, 97, 105, 108]⟩, .slice A 1 c] w _
  have HC := hide (contains_names [116, 97, 105, 108] (by kernel_rfl))
  have HX1 := hide ((Ext.refl w).alloc (.cells (strsV namesL).toArray 9))
  have HN := hide (names_any w)
  go_enter Tryz.func34, Tryz.ntmps34
  go_wp2_with fail
  refine HN.out.mono ?_
  rintro e w1 ⟨rfl, hw1⟩
  rw [hw1]
  clear hw1
  go_wp2_with fail
  refine (HC.out w).mono ?_
  rintro e w1 ⟨rfl, hw1⟩
  rw [← hw1] at HX1
  clear hw1
  go_wp2_with fail
  refine (HJ.out w1 HX1.out).mono ?_
  rintro e w2 ⟨rfl, hx2⟩
  rw [HJN.out]
  have HX2 := hide (HX1.out.trans hx2)
  clear hx2
  go_wp2_with fail
  refine (HNU.out w2 (HLL.out.ext HX2.out)).mono ?_
  rintro e w3 ⟨rfl, hx3⟩
  have HX3 := hide (HX2.out.trans hx3)
  clear hx3
  go_wp2_with fail
  go_ret
  exact ⟨rfl, HX3.out⟩
set_option maxHeartbeats 4000000 in
set_option maxRecDepth 100000 in
theorem check_cut (a b : Nat) (h1 : 1 ≤ a) (hab : a ≤ b) (hb : b ≤ 999) : CheckAt [99, 117, 116] [Lib.itoa (a : Int), Lib.itoa (b : Int)] := by
  intro w A n c B hL hr hB hc
  have HLL := hide hL
  have HNA := hide (fun W hW => number_nat a (by omega) W hW)
  have HNB := hide (fun W hW => number_nat b hb W hW)
  obtain rfl := args_len hr
  have HR := hide hr
  have HB := hide hB
  clear hr hL hB
  show Calls _ _ #[.string ⟨#[99, 117, 116]⟩, .slice A 2 c] w _
  have HC := hide (contains_names [99, 117, 116] (by kernel_rfl))
  have HX1 := hide ((Ext.refl w).alloc (.cells (strsV namesL).toArray 9))
  have HN := hide (names_any w)
  go_enter Tryz.func34, Tryz.ntmps34
  go_wp2_with fail
  refine HN.out.mono ?_
  rintro e w1 ⟨rfl, hw1⟩
  rw [hw1]
  clear hw1
  go_wp2_with fail
  refine (HC.out w).mono ?_
  rintro e w1 ⟨rfl, hw1⟩
  rw [← hw1] at HX1
  clear hw1
  obtain ⟨b', off, rfl, hb', hcell⟩ := arg_cell (HX1.out.reads HR.out HB.out) (by simp)
  have q0 : w1.cell? ⟨b', off, none⟩ = some (.string (str (Lib.itoa (a : Int)))) := hcell 0 _ rfl
  have HCELL := hide hcell
  clear hcell
  go_wp2_with fail
  refine (HNA.out w1 (HLL.out.ext HX1.out)).mono ?_
  rintro e w2 ⟨rfl, hx2⟩
  have HX2 := hide (HX1.out.trans hx2)
  have q1 : w2.cell? ⟨b', off + 1, none⟩ = some (.string (str (Lib.itoa (b : Int)))) := hx2.cell (HCELL.out 1 _ rfl)
  clear hx2 q0
  go_wp2_with fail
  refine (HNB.out w2 (HLL.out.ext HX2.out)).mono ?_
  rintro e w3 ⟨rfl, hx3⟩
  have HX3 := hide (HX2.out.trans hx3)
  clear hx3 q1
  have t1 : decide ((1 : Int) ≤ (a : Int)) = true := decide_eq_true (by omega)
  have t1' : decide (1 ≤ a) = true := decide_eq_true (by omega)
  have t2 : decide (a ≤ b) = true := decide_eq_true hab
  go_wp2_with fail
  go_ret
  exact ⟨rfl, HX3.out⟩
set_option maxHeartbeats 4000000 in
set_option maxRecDepth 100000 in
theorem check_tr (x y : UInt8) : CheckAt [116, 114] [[x], [y]] := by
  intro w A n c B hL hr hB hc
  obtain rfl := args_len hr
  have HR := hide hr
  have HB := hide hB
  clear hr hL hB
  show Calls _ _ #[.string ⟨#[116, 114]⟩, .slice A 2 c] w _
  have HC := hide (contains_names [116, 114] (by kernel_rfl))
  have HX1 := hide ((Ext.refl w).alloc (.cells (strsV namesL).toArray 9))
  have HN := hide (names_any w)
  go_enter Tryz.func34, Tryz.ntmps34
  go_wp2_with fail
  refine HN.out.mono ?_
  rintro e w1 ⟨rfl, hw1⟩
  rw [hw1]
  clear hw1
  go_wp2_with fail
  refine (HC.out w).mono ?_
  rintro e w1 ⟨rfl, hw1⟩
  rw [← hw1] at HX1
  clear hw1
  obtain ⟨b', off, rfl, hb', hcell⟩ := arg_cell (HX1.out.reads HR.out HB.out) (by simp)
  have q0 : w1.cell? ⟨b', off, none⟩ = some (.string (str [x])) := hcell 0 _ rfl
  have q1 : w1.cell? ⟨b', off + 1, none⟩ = some (.string (str [y])) := hcell 1 _ rfl
  have z0 : (str [x]).size = 1 := rfl
  have z1 : (str [y]).size = 1 := rfl
  clear hcell
  generalize str [x] = X at *
  generalize str [y] = Y at *
  go_wp2_with fail
  go_ret
  exact ⟨rfl, HX1.out⟩
set_option maxHeartbeats 4000000 in
set_option maxRecDepth 100000 in
theorem check_grep (g : Bs) (hg : g ≠ []) : CheckAt [103, 114, 101, 112] [g] := by
  intro w A n c B hL hr hB hc
  obtain rfl := args_len hr
  have HR := hide hr
  have HB := hide hB
  clear hr hL hB
  show Calls _ _ #[.string ⟨#[103, 114, 101, 112]⟩, .slice A 1 c] w _
  have HC := hide (contains_names [103, 114, 101, 112] (by kernel_rfl))
  have HX1 := hide ((Ext.refl w).alloc (.cells (strsV namesL).toArray 9))
  have HN := hide (names_any w)
  go_enter Tryz.func34, Tryz.ntmps34
  go_wp2_with fail
  refine HN.out.mono ?_
  rintro e w1 ⟨rfl, hw1⟩
  rw [hw1]
  clear hw1
  go_wp2_with fail
  refine (HC.out w).mono ?_
  rintro e w1 ⟨rfl, hw1⟩
  rw [← hw1] at HX1
  clear hw1
  obtain ⟨b', off, rfl, hb', hcell⟩ := arg_cell (HX1.out.reads HR.out HB.out) (by simp)
  have q0 : w1.cell? ⟨b', off, none⟩ = some (.string (str g)) := hcell 0 _ rfl
  have hgl : (str g).toList ≠ [] := by rw [Lib.toList_data, str_list]; exact hg
  have t1 : (str g).toList.isEmpty = false := by cases h : (str g).toList with | nil => exact absurd h hgl | cons a l => rfl
  have t2 : ((str g).toList != []) = true := by cases h : (str g).toList with | nil => exact absurd h hgl | cons a l => rfl
  clear hcell hg
  generalize str g = G at *
  go_wp2_with fail
  go_ret
  exact ⟨rfl, HX1.out⟩
set_option maxHeartbeats 4000000 in
set_option maxRecDepth 100000 in
theorem check_echo (l : List Bs) (hl : l.length ≤ 4) : CheckAt [101, 99, 104, 111] l := by
  intro w A n c B hL hr hB hc
  have hn := args_len hr
  have t1 : decide (4 < n) = false := decide_eq_false (by omega)
  have t2 : decide ((4 : Int) < (n : Int)) = false := decide_eq_false (by omega)
  have t3 : ((n : Int) == 0) = decide (n = 0) := by rw [Bool.eq_iff_iff]; simp
  clear hr hL hB hn
  show Calls _ _ #[.string ⟨#[101, 99, 104, 111]⟩, .slice A n c] w _
  have HC := hide (contains_names [101, 99, 104, 111] (by kernel_rfl))
  have HX1 := hide ((Ext.refl w).alloc (.cells (strsV namesL).toArray 9))
  have HN := hide (names_any w)
  go_enter Tryz.func34, Tryz.ntmps34
  go_wp2_with fail
  refine HN.out.mono ?_
  rintro e w1 ⟨rfl, hw1⟩
  rw [hw1]
  clear hw1
  go_wp2_with fail
  refine (HC.out w).mono ?_
  rintro e w1 ⟨rfl, hw1⟩
  rw [← hw1] at HX1
  clear hw1
  go_wp2_with fail
  go_ret
  exact ⟨rfl, HX1.out⟩
end Go.Proofs.YtjmonkacijncbaaGreatDoor
