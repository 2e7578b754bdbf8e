/- What the library's variables hold; the contracts of strconv.Itoa, tools.number, strings.Join, strings.Contains, decimal. -/
import Derived.Test.YtjmonkacijncbaaGreatDoorTlP
import Derived.Test.YtjmonkacijncbaaGreatDoorShelf
import Derived.Test.YtjmonkacijncbaaGreatDoorStrK
import Derived.Test.YtjmonkacijncbaaGreatDoorAtoi
import Derived.Test.YtjmonkacijncbaaGreatDoorItoa3
import Derived.Shelf.Unicode.DecodeSlow
import Derived.Shelf.Strconv.AtoiAll
namespace Go.Proofs.YtjmonkacijncbaaGreatDoor
open Go.RowKit
set_option linter.unusedVariables false

def strsV (l : List Bs) : List Value := l.map fun x => .string (str x)
theorem strsV_length (l : List Bs) : (strsV l).length = l.length := by simp [strsV]
theorem strsV_one (l : List Bs) : ∀ u ∈ strsV l, u.oneCell' = true := by
  intro u hu
  obtain ⟨x, _, rfl⟩ := List.mem_map.1 hu
  rfl
theorem strsV_append (a b : List Bs) : strsV (a ++ b) = strsV a ++ strsV b := by simp [strsV]
theorem str_eq_iff (a b : Bs) : ((str a).toList == (str b).toList) = decide (a = b) := by
  rw [Lib.toList_data, Lib.toList_data, str_list, str_list, Bool.eq_iff_iff, beq_iff_eq, decide_eq_true_eq]
theorem var_ext {w w' : World} (hx : Ext w w') (name : String) {x : Array Value} (h : w.var? Tryz.prog name = some x) : w'.var? Tryz.prog name = some x := by
  unfold World.var? at *
  cases hg : Tryz.prog.globalNamed name with
  | none => rw [hg] at h; cases h
  | some g =>
    rw [hg] at h
    simp only [Option.bind_some] at h ⊢
    cases hb : w.heap[g]? with
    | none => rw [hb] at h; cases h
    | some o =>
      rw [Below.block hx g (Array.getElem?_eq_some_iff.1 hb).1]
      exact h
/-- The library's variables are as its text lays them. -/
structure LibOk (w : World) : Prop where
  pow : Lib.TabIs Tryz.prog w "internal/strconv.uint64pow10" .u64 Lib.pow10Tab
  max : ∃ m : Int, w.cell? ⟨0, 0, none⟩ = some (.int .i64 m)
  utf : Lib.Utf8Tabs 1 2 w
theorem LibOk.ext {w w' : World} (h : LibOk w) (hx : Ext w w') : LibOk w' := by
  obtain ⟨m, hm⟩ := h.max
  exact ⟨var_ext hx _ h.pow, ⟨m, hx.cell hm⟩, fun c hc => hx.cell (h.utf.1 c hc), fun i hi => ⟨hx.cell (h.utf.2 i hi).1, hx.cell (h.utf.2 i hi).2⟩⟩
theorem grow_ext (w : World) (k : Nat) (os : Array Obj) : Ext w (Go.Sort.grow (w.drewN k) os) :=
  Ext.of ⟨rfl, rfl, rfl, by show w.heap.size ≤ (w.heap ++ os).size; simp, fun j hj => by show (w.heap ++ os)[j]? = w.heap[j]?; exact Array.getElem?_append_left hj⟩
theorem itoa_lib (n : Int) (h0 : -9223372036854775808 ≤ n) (h1 : n ≤ 9223372036854775807) (w : World) (h : LibOk w) :
    Calls Tryz.prog 40 #[.int .i64 n] w fun e w' => e = .returned (.string (str (Lib.itoa n))) ∧ Ext w w' :=
  (Tryz.strconv_Itoa n h0 h1 w h.pow).mono fun e W' ⟨h1, k, os, h2⟩ => ⟨h1, h2 ▸ grow_ext _ _ _⟩
theorem itoa_nat (n : Nat) : Lib.itoa (n : Int) = Lib.decDigits n := by
  unfold Lib.itoa
  rw [if_neg (by omega)]
  rfl
theorem atoi_nat (n : Nat) (hn : n ≤ 999) (w : World) :
    Calls Tryz.prog 94 #[.string (str (Lib.itoa (n : Int)))] w fun e w' => e = .returned (.tuple #[.int .i64 (n : Int), .nilIface]) ∧ Ext w w' := by
  have hl := itoa_len (n : Int) (by omega)
  refine (Tryz.strconv_Atoi_ok (str (Lib.itoa (n : Int))) (by rw [str_size]; omega) (n : Int) (by rw [str_list]; exact atoi_itoa _ (by omega)) w).mono fun e w' ⟨h1, h2⟩ => ⟨h1, ?_⟩
  rcases h2 with rfl | ⟨t, rfl⟩
  · exact Ext.refl _
  · exact Lib.bytesWorld_below _ _ _
set_option maxHeartbeats 2000000 in
set_option maxRecDepth 100000 in
theorem number_nat (n : Nat) (hn : n ≤ 999) (w : World) (hL : LibOk w) :
    Calls Tryz.prog 64 #[.string (str (Lib.itoa (n : Int)))] w fun e w' => e = .returned (.tuple #[.int .i64 (n : Int), .bool true]) ∧ Ext w w' := by
  have HA := hide (atoi_nat n hn w)
  have HI := hide (fun W (h : LibOk W) => itoa_lib (n : Int) (by omega) (by omega) W h)
  have HL := hide hL
  have t1 : decide ((0 : Int) ≤ (n : Int)) = true := decide_eq_true (by omega)
  have t2 : decide ((n : Int) ≤ 999) = true := decide_eq_true (by omega)
  have t3 : ((str (Lib.itoa (n : Int))).toList == (str (Lib.itoa (n : Int))).toList) = true := by rw [str_eq_iff, decide_eq_true rfl]
  generalize str (Lib.itoa (n : Int)) = S at *
  go_enter Tryz.func64, Tryz.ntmps64
  go_wp2_with fail
  refine HA.out.mono ?_
  rintro e w1 ⟨rfl, hx⟩
  have HX := hide hx
  clear hx
  have HI2 := hide (HI.out w1 (HL.out.ext HX.out))
  go_wp2_with fail
  refine HI2.out.mono ?_
  rintro e w2 ⟨rfl, hx2⟩
  have HX2 := hide (HX.out.trans hx2)
  clear hx2
  go_wp2_with fail
  go_ret2
  exact ⟨rfl, HX2.out⟩
theorem decimal_nat (n : Nat) (hn : n < 1000) (w : World) :
    Calls Tryz.prog 13 #[.int .i64 (n : Int)] w fun e w' => e = .returned (.string (str (Lib.itoa (n : Int)))) ∧ Ext w w' := by
  have HI := hide (itoa_3 n hn w)
  rw [itoa_nat]
  go_enter Tryz.func13, Tryz.ntmps13
  go_wp2_with fail
  refine HI.out.mono ?_
  rintro e w1 ⟨rfl, hx⟩
  have HX := hide hx
  clear hx
  go_wp2_with fail
  go_ret
  exact ⟨rfl, HX.out⟩
/-- strings.Join on strings that are read. -/
theorem join_any (L : List Bs) (sep : Bs) (A : Option Addr) (n c B : Nat) (w : World) (hr : Reads w B 1 A n (strsV L)) (hB : B ≤ w.heap.size) (hc : n ≤ c) (hl : (Lib.join L sep).length ≤ 1000000) (hm : n ≤ 1000000) :
    Calls Tryz.prog 36 #[.slice A n c, .string (str sep)] w fun e w' => e = .returned (.string (str (Lib.join L sep))) ∧ Ext w w' := by
  have hn : L.length = n := by have := hr.1; rw [strsV_length] at this; omega
  subst hn
  rcases Nat.eq_zero_or_pos L.length with h0 | h1
  · have : L = [] := List.eq_nil_of_length_eq_zero h0
    subst this
    exact (Tryz.strings_Join_none A c (str sep) w).mono fun e w' ⟨h1, h2⟩ => ⟨h1, h2 ▸ Ext.refl _⟩
  obtain ⟨b, off, rfl, hb, hcell⟩ := hr.at1 h1
  have hx : (L.map str).map (·.data.toList) = L := by rw [List.map_map]; exact (List.map_congr_left (fun x _ => str_list x)).trans (List.map_id _)
  have := Tryz.strings_Join b off c (L.map str) (str sep) w (fun j x hj => by
      rw [List.getElem?_map] at hj
      have hlt : j < L.length := by
        cases h : L[j]? with
        | none => rw [h] at hj; cases hj
        | some y => exact (List.getElem?_eq_some_iff.1 h).1
      rw [List.getElem?_eq_getElem hlt] at hj
      injection hj with hj
      rw [hcell j hlt, ← hj]
      simp [strsV]) (by omega) (by simp; omega) (by simpa using hc) (by rw [hx, str_list]; omega)
  rw [hx, str_list, List.length_map] at this
  exact this
theorem contains_lib (s sub : Bs) (hs : s.length ≤ 1000000) (w : World) (h : LibOk w) :
    Calls Tryz.prog 82 #[.string (str s), .string (str sub)] w fun e w' => e = .returned (.bool (Lib.contains s sub)) ∧ w = w' := by
  obtain ⟨m, hm⟩ := h.max
  have := Tryz.strings_Contains (str s) (str sub) m w (by rw [str_size]; omega) hm
  rw [str_list, str_list] at this
  exact this.mono fun e w' ⟨h1, h2⟩ => ⟨h1, h2.symm⟩
end Go.Proofs.YtjmonkacijncbaaGreatDoor
