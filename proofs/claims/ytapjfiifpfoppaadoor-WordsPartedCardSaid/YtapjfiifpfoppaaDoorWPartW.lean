/- The walk of WordsParted. -/
import Derived.Test.YtapjfiifpfoppaaDoorWPartP
import Derived.Test.YtapjfiifpfoppaaDoorWExpand
import Derived.Test.YtapjfiifpfoppaaDoorRest
import Derived.Test.YtapjfiifpfoppaaDoorItoa
namespace Go.Proofs.YtapjfiifpfoppaaDoor
open Go.RowKit
set_option linter.unusedVariables false

/-- The library's table of powers of ten is as its text lays it. -/
def TabOk (w : World) : Prop := Lib.TabIs Tryd.prog w "internal/strconv.uint64pow10" .u64 Lib.pow10Tab
theorem TabOk.ext {w w' : World} (h : TabOk w) (hx : Ext w w') : TabOk w' := by
  unfold TabOk Lib.TabIs World.var? at *
  cases hg : Tryd.prog.globalNamed "internal/strconv.uint64pow10" with
  | none => rw [hg] at h; cases h
  | some g =>
    rw [hg] at h
    simp only [Option.bind_some] at h ⊢
    cases hb : w.heap[g]? with
    | none => rw [hb] at h; cases h
    | some o =>
      rw [Below.block hx g (Array.getElem?_eq_some_iff.1 hb).1]
      exact h
theorem grow_ext (w : World) (k : Nat) (os : Array Obj) : Ext w (Go.Sort.grow (w.drewN k) os) :=
  Ext.of ⟨rfl, rfl, rfl, by show w.heap.size ≤ (w.heap ++ os).size; simp, fun j hj => by show (w.heap ++ os)[j]? = w.heap[j]?; exact Array.getElem?_append_left hj⟩
theorem itoa_tab (n : Nat) (hn : n < 1000) (w : World) (h : TabOk w) : ItoaAt w (n : Int) (Lib.decDigits n) := fun W hW =>
  (Tryd.strconv_Itoa (n : Int) (by omega) (by omega) W (h.ext hW)).mono fun e W' ⟨h1, k, os, h2⟩ => ⟨by rw [h1, Lib.itoa_nonneg]; rfl, h2 ▸ grow_ext _ _ _⟩
theorem dec_one (k : Nat) (h : k < 10) : Lib.decDigits k = digit k := by
  rw [Lib.decDigits_one h]
  rcases (by omega : k = 0 ∨ k = 1 ∨ k = 2 ∨ k = 3 ∨ k = 4 ∨ k = 5 ∨ k = 6 ∨ k = 7 ∨ k = 8 ∨ k = 9) with rfl | rfl | rfl | rfl | rfl | rfl | rfl | rfl | rfl | rfl <;> rfl
theorem dec_more (n : Nat) (h : 10 ≤ n) : Lib.decDigits n = Lib.decDigits (n / 10) ++ digit (n % 10) := by
  rw [Lib.decDigits, dif_neg (by omega), ← dec_one _ (Nat.mod_lt _ (by decide)), Lib.decDigits_one (Nat.mod_lt _ (by decide))]
set_option maxRecDepth 100000 in
set_option maxHeartbeats 2000000 in
theorem itoa_step (n : Nat) (h10 : 10 ≤ n) (h : n ≤ 1000000) (ih : ∀ W, Calls Tryd.prog 10 #[.int .i64 ((n / 10 : Nat) : Int)] W fun e w' => e = .returned (.string (str (Lib.decDigits (n / 10)))) ∧ Ext W w') (w : World) (hd : (Lib.decDigits (n / 10)).length ≤ 100) :
    Calls Tryd.prog 10 #[.int .i64 (n : Int)] w fun e w' => e = .returned (.string (str (Lib.decDigits n))) ∧ Ext w w' := by
  have HI := hide ih
  have HD := hide (dec_more n h10)
  have HT := hide (fun W => itoa_digit (n % 10) (Nat.mod_lt _ (by decide)) W)
  have h1 : (n : Int).tdiv 10 = ((n / 10 : Nat) : Int) := by rw [Int.tdiv_eq_ediv_of_nonneg (by omega)]; omega
  have h2 : (n : Int).tmod 10 = ((n % 10 : Nat) : Int) := by rw [Int.tmod_eq_emod_of_nonneg (by omega)]; omega
  have y1 : -9223372036854775808 ≤ (n : Int).tdiv 10 ∧ (n : Int).tdiv 10 ≤ 9223372036854775807 := by rw [h1]; omega
  have y2 : -9223372036854775808 ≤ (n : Int).tmod 10 ∧ (n : Int).tmod 10 ≤ 9223372036854775807 := by rw [h2]; omega
  have H1 := hide (show (n : Int) / 10 = ((n / 10 : Nat) : Int) by omega)
  have H2 := hide (show (n : Int) % 10 = ((n % 10 : Nat) : Int) by omega)
  clear h1 h2
  have hs : str (Lib.decDigits (n / 10)) ++ str (digit (n % 10)) = str (Lib.decDigits n) := by rw [str_append, ← dec_more n h10]
  have z1 : (str (Lib.decDigits (n / 10))).size ≤ 100 := by rw [str_size]; exact hd
  have z2 : (str (digit (n % 10))).size = 1 := str_size _
  clear ih hd
  go_enter Tryd.func10, Tryd.ntmps10
  go_wp2_with fail
  rw [H1.out]
  refine (HI.out w).mono ?_
  rintro e w1 ⟨rfl, hx1⟩
  have HX1 := hide hx1
  clear hx1
  go_wp2_with fail
  rw [H2.out]
  refine (HT.out w1).mono ?_
  rintro e w2 ⟨rfl, hx2⟩
  have HX2 := hide (HX1.out.trans hx2)
  clear hx2
  generalize str (digit (n % 10)) = S2 at *
  generalize str (Lib.decDigits (n / 10)) = S1 at *
  go_wp2_with fail
  go_ret
  exact ⟨rfl, HX2.out⟩
theorem itoa_1 (n : Nat) (h : n < 10) (w : World) : Calls Tryd.prog 10 #[.int .i64 (n : Int)] w fun e w' => e = .returned (.string (str (Lib.decDigits n))) ∧ Ext w w' := by
  rw [dec_one n h]
  exact itoa_digit n h w
theorem dec_len (n : Nat) (h : n < 1000) : (Lib.decDigits n).length ≤ 3 := by
  by_cases h1 : n < 10
  · rw [Lib.decDigits_one h1]; simp
  · rw [dec_more n (by omega)]
    by_cases h2 : n < 100
    · rw [Lib.decDigits_one (by omega)]; simp [digit]
    · rw [dec_more (n / 10) (by omega), Lib.decDigits_one (by omega)]; simp [digit]
theorem itoa_2 (n : Nat) (h : n < 100) (w : World) : Calls Tryd.prog 10 #[.int .i64 (n : Int)] w fun e w' => e = .returned (.string (str (Lib.decDigits n))) ∧ Ext w w' := by
  by_cases h1 : n < 10
  · exact itoa_1 n h1 w
  · exact itoa_step n (by omega) (by omega) (fun W => itoa_1 (n / 10) (by omega) W) w (Nat.le_trans (dec_len _ (by omega)) (by decide))
theorem itoa_3 (n : Nat) (h : n < 1000) (w : World) : Calls Tryd.prog 10 #[.int .i64 (n : Int)] w fun e w' => e = .returned (.string (str (Lib.decDigits n))) ∧ Ext w w' := by
  by_cases h1 : n < 100
  · exact itoa_2 n h1 w
  · exact itoa_step n (by omega) (by omega) (fun W => itoa_2 (n / 10) (by omega) W) w (Nat.le_trans (dec_len _ (by omega)) (by decide))
set_option maxRecDepth 100000 in
set_option maxHeartbeats 2000000 in
theorem space_any (x : Nat) (hx : x ≤ 1114111) (w : World) : Calls Tryd.prog 13 #[.int .i32 (x : Int)] w fun e w' => e = .returned (.bool (spaceP x)) ∧ w' = w := by
  have HD := hide (show spaceP x = decide (x = 32) from rfl)
  by_cases h : x = 32
  · have t1 : ((x : Int) == 32) = true := by simp; omega
    rw [decide_eq_true h] at HD
    generalize spaceP x = b at *
    clear h
    go_enter Tryd.func13, Tryd.ntmps13
    go_wp2_with fail
    go_ret
    exact ⟨by rw [HD.out]; rfl, rfl⟩
  · have t1 : ((x : Int) == 32) = false := by simp; omega
    rw [decide_eq_false h] at HD
    generalize spaceP x = b at *
    clear h
    go_enter Tryd.func13, Tryd.ntmps13
    go_wp2_with fail
    go_ret
    exact ⟨by rw [HD.out]; rfl, rfl⟩
theorem fields_any (s : List UInt8) (hs : s.length ≤ 1000) (hp : Printable s) (w : World) :
    Calls Tryd.prog 12 #[.string (str s), .func (.func 13) #[] #[]] w fun e w' => ∃ A c, e = .returned (.slice A (sepF s).length c) ∧ w'.ownsRow w.heap.size 9 1 (.slice A (sepF s).length c) (sepF s).length (strsV (sepF s)) ∧ Ext w w' := by
  have hg : PredGrows Tryd.prog 13 #[] spaceP w := fun W x hx _ => (space_any x hx W).mono fun e W' ⟨h1, h2⟩ => ⟨h1, h2 ▸ Below.refl _ _⟩
  have := Tryd.strings_FieldsFunc_grows 13 #[] (fun args w => by kernel_rfl) spaceP (str s) w (by rw [str_size]; omega) hg
  rw [fields_list s hp, List.length_map, List.map_map] at this
  exact this.mono fun e w' ⟨A, h1, h2, h3, h4⟩ => ⟨_, _, h1, h3, h4⟩
def EqSRel (w : World) (n : Nat) (i : Value) (wr : World) : Prop := ∃ k : Nat, k ≤ n ∧ i = .int .i64 k ∧ Ext w wr
set_option maxHeartbeats 2000000 in
set_option maxRecDepth 100000 in
theorem strs_equal (xs : List (List UInt8)) (A A' : Option Addr) (c c' B B' : Nat) (w : World) (hr : Reads w B 1 A xs.length (strsV xs)) (hr' : Reads w B' 1 A' xs.length (strsV xs)) (hB : B ≤ w.heap.size) (hB' : B' ≤ w.heap.size) (hm : xs.length ≤ 1000000) :
    Calls Tryd.prog 11 #[.slice A xs.length c, .slice A' xs.length c'] w fun e w' => e = .returned (.bool true) ∧ Ext w w' := by
  have HR := hide hr
  have HR' := hide hr'
  clear hr hr'
  go_enter Tryd.func11, Tryd.ntmps11
  go_wp2
  go_loopw [13] (EqSRel w xs.length) (fun i _ => xs.length - (intOf i).toNat)
  case atStart => exact ⟨0, Nat.zero_le _, rfl, Ext.refl _⟩
  case round =>
    obtain ⟨k, hk, rfl, hx⟩ := hrel
    have HX := hide hx
    have hrk := hx.reads HR.out hB
    have hrk' := hx.reads HR'.out hB'
    clear hx
    by_cases hlt : k < xs.length
    · obtain ⟨b, off, rfl, -, hc⟩ := hrk.at1 (by omega)
      obtain ⟨b', off', rfl, -, hc'⟩ := hrk'.at1 (by omega)
      have q0 : wr.cell? ⟨b, off + k, none⟩ = some (.string (str xs[k])) := by rw [hc k hlt]; simp [strsV]
      have r0 : wr.cell? ⟨b', off' + k, none⟩ = some (.string (str xs[k])) := by rw [hc' k hlt]; simp [strsV]
      generalize str xs[k] = X at *
      clear hrk hrk' hc hc'
      go_wp2_with fail
      go_quiet (fail)
      have HX2 := hide (HX.out.drewN nq)
      go_wp2_with fail
      go_roundw
      case rel => exact ⟨k + 1, by omega, by go_num, HX2.out⟩
      case measure => simp [intOf]; omega
    · go_wp2
      go_ret
      exact ⟨rfl, HX.out⟩
end Go.Proofs.YtapjfiifpfoppaaDoor
