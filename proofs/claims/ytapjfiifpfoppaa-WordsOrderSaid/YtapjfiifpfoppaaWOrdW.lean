/- The walk of WordsOrder. -/
import Derived.Test.YtapjfiifpfoppaaWPrn
import Derived.Test.YtapjfiifpfoppaaWOrdP
namespace Go.Proofs.Ytapjfiifpfoppaa
open Go.RowKit
set_option linter.unusedVariables false

def lastZ (ts : List TokD) (k : Nat) : Int := if k = 0 then -1 else (((ts[k - 1]?.map TokD.at_).getD 0 : Nat) : Int)
theorem lastZ_lt {s : List UInt8} {ts : List TokD} {hi : Nat} (h : Ord s ts hi) {k : Nat} {t : TokD} (ht : ts[k]? = some t) : lastZ ts k < (t.at_ : Int) := by
  unfold lastZ
  split
  · omega
  · rename_i hk
    have hl := (List.getElem?_eq_some_iff.1 ht).1
    obtain ⟨u, hu⟩ : ∃ u, ts[k - 1]? = some u := ⟨_, List.getElem?_eq_getElem (by omega)⟩
    have := h.next (k - 1) u t hu (by rw [show k - 1 + 1 = k by omega]; exact ht)
    rw [hu]
    simp
    omega
theorem lastZ_next {ts : List TokD} {k : Nat} {t : TokD} (ht : ts[k]? = some t) : lastZ ts (k + 1) = (t.at_ : Int) := by
  unfold lastZ
  rw [if_neg (by omega), show k + 1 - 1 = k by omega, ht]
  rfl
theorem tok_at {ls : List (TokD × Value)} {ts : List TokD} (h : ls.map (·.1) = ts) {k : Nat} (hk : k < ls.length) : ts[k]? = some ls[k].1 := by
  rw [← h, List.getElem?_map, List.getElem?_eq_getElem hk]
  rfl
def OrdRel (w1 : World) (ts : List TokD) (n : Nat) (v6 v36 : Value) (wr : World) : Prop := ∃ k : Nat, k ≤ n ∧ v36 = .int .i64 k ∧ v6 = .int .i64 (lastZ ts k) ∧ Ext w1 wr
set_option maxHeartbeats 8000000 in
set_option maxRecDepth 100000 in
theorem order_walk (l : List UInt8) (hl : l.length ≤ 9223372036854775807) (w : World) :
    Calls Try.prog 3 #[.string (str l)] w fun e w' => e = .returned (.bool true) ∧ Ext w w' := by
  have HPR := hide (printable_any l hl 60 (by omega) w)
  obtain ⟨s, hs⟩ : ∃ s, prnL (l.take 60) = s := ⟨_, rfl⟩
  have hsl : s.length ≤ 60 := by rw [← hs]; simp [prnL]; omega
  have hsp : Printable s := by rw [← hs]; exact prnL_ok _
  rw [hs] at HPR
  clear hs
  have HSP := hide (fun w => split_any s (by omega) hsp w)
  have HONE := hide (fun w => split_any [32, 97, 32, 32, 98] (by decide) (by show ∀ c ∈ [32, 97, 32, 32, 98], 32 ≤ UInt8.toNat c ∧ UInt8.toNat c ≤ 126; decide) w)
  have hss : (str s).size = s.length := str_size s
  clear hsp
  go_enter Try.func3, Try.ntmps3
  go_wp2_with fail
  refine HPR.out.mono ?_
  rintro e w0 ⟨rfl, hx0⟩
  have HX0 := hide hx0
  clear hx0 HPR
  go_wp2_with fail
  refine (HSP.out w0).mono ?_
  rintro e w1 ⟨hx1, hpost⟩
  have HX1 := hide (HX0.out.trans hx1)
  cases hR : splitD s with
  | bad a =>
    rw [hR] at hpost
    have he : e = .returned (.tuple #[.slice none 0 0, .int .i64 (a : Int), .int .i64 22]) := hpost
    subst he
    have hlt := splitD_bad hR
    have t1 : decide ((a : Nat) < s.length) = true := decide_eq_true hlt
    clear hpost hR HSP hx1
    go_wp2_with fail
    go_ret
    exact ⟨rfl, HX1.out⟩
  | ok ts =>
    rw [hR] at hpost
    obtain ⟨A, c, ls, rfl, hts, htk, h6⟩ := hpost
    obtain ⟨hi, hord⟩ := splitD_ord hR
    have HORD := hide hord
    have HTS := hide hts
    have HTK := hide htk
    clear hord hts htk hR HSP hx1
    go_wp2_with fail
    go_loopw [6, 36] (OrdRel w1 ts ls.length) (fun _ i _ => ls.length - (intOf i).toNat)
    case atStart => exact ⟨0, Nat.zero_le _, rfl, rfl, Ext.refl _⟩
    case round =>
      obtain ⟨k, hk, rfl, rfl, hx⟩ := hrel
      have HX := hide hx
      clear hx
      by_cases hlt : k < ls.length
      · have hat := tok_at HTS.out hlt
        have h1 := lastZ_lt HORD.out hat
        have HNX := hide (lastZ_next hat)
        obtain ⟨-, x, hx, hn⟩ := HORD.out.each _ _ hat
        have hxl := (List.getElem?_eq_some_iff.1 hx).1
        have ix := str_index (P := Try.prog) Try.underlying9 hx
        have hrd := HX.out.reads (Reads.of_own HTK.out.own) (Nat.le_refl _)
        obtain ⟨b, off, rfl, -⟩ := hrd.addr (by omega) (by omega)
        have hv : ∀ (j : Nat) (hj : j < 3) (u : Value), (tokC ls[k])[j]? = some u → wr.cell? ⟨b, off + k * 3 + j, none⟩ = some u := fun j hj u hu => Reads.elem tokC_len hrd k hlt (by omega) j hj hu
        have c0 := hv 0 (by omega) (.string (str ls[k].1.op)) rfl
        have c1 := hv 1 (by omega) ls[k].2 rfl
        have c2 := hv 2 (by omega) (.int .i64 (ls[k].1.at_ : Int)) rfl
        rw [Nat.add_zero] at c0
        obtain ⟨Ap, cp, hvp, -⟩ := HTK.out.parts _ (List.getElem_mem hlt)
        rw [hvp] at c1
        generalize ls[k].1.parts.length = np at c1
        have t3 : ((x.toNat : Int) == 32) = false := by simp; omega
        generalize lastZ ts k = z at *
        generalize ls[k].1.at_ = a at *
        generalize str ls[k].1.op = o at *
        have t1 : decide ((a : Int) ≤ z) = false := by simp; omega
        have t2 : decide (s.length ≤ a) = false := by simp; omega
        have HXA := hide (fun o => HX.out.trans ((Ext.refl wr).alloc o))
        clear hv hrd hat hx hn HORD hvp
        go_wp2_with fail
        go_roundw
        case rel => exact ⟨k + 1, by omega, by go_num, by rw [HNX.out], HXA.out _⟩
        case measure => simp [intOf]; omega
      · obtain rfl : k = ls.length := by omega
        have HXW := hide (HX1.out.trans HX.out)
        go_wp2_with fail
        refine (HONE.out wr).mono ?_
        rintro e w9 ⟨hx9, hpost⟩
        rw [split_one] at hpost
        obtain ⟨A9, c9, ls9, rfl, hts9, htk9, -⟩ := hpost
        have hl9 : ls9.length = 2 := by have := congrArg List.length hts9; simpa using this
        have hrd := Reads.of_own htk9.own
        obtain ⟨b, off, rfl, -⟩ := hrd.addr (by omega) (by omega)
        have ha : (ls9[1]'(by omega)).1.at_ = 4 := by
          have := congrArg (fun l => l[1]?) hts9
          simp only [List.getElem?_map, List.getElem?_eq_getElem (show 1 < ls9.length by omega)] at this
          simpa using congrArg (Option.map TokD.at_) this
        have c2 : w9.cell? ⟨b, off + 3 + 2, none⟩ = some (.int .i64 4) := by
          have := Reads.elem tokC_len hrd 1 (by omega) (by omega) 2 (by omega) (u := .int .i64 ((ls9[1]'(by omega)).1.at_ : Int)) rfl
          rw [ha] at this
          simpa using this
        rw [hl9]
        have HXZ := hide (HXW.out.trans hx9)
        clear hrd ha hl9 hts9 htk9 hx9
        go_wp2_with fail
        go_ret
        exact ⟨rfl, HXZ.out⟩
end Go.Proofs.Ytapjfiifpfoppaa
