/- The walk of WordsQuoted. -/
import Derived.Test.YtapjfiifpfoppaaDoorWExpand
import Derived.Test.YtapjfiifpfoppaaDoorWQuote
namespace Go.Proofs.YtapjfiifpfoppaaDoor
open Go.RowKit
set_option linter.unusedVariables false

theorem itoa_small (n : Nat) (hn : n < 100) (w : World) : ItoaAt w (n : Int) (Lib.decDigits n) := fun W _ => (Tryd.strconv_Itoa_small n hn W).mono fun e W' ⟨h1, h2⟩ => ⟨h1, h2 ▸ Ext.refl _⟩
theorem fields_quote (x : List UInt8) (vs : List VarD) (st : List UInt8) : fieldsD [⟨x, false, true⟩] vs st = [x] := by
  simp [fieldsD, partsF, stepF, addF, endF]
set_option maxHeartbeats 8000000 in
set_option maxRecDepth 100000 in
theorem quoted_walk (l : List UInt8) (hl : l.length ≤ 9223372036854775807) (w : World) (hm : MaxAt w) :
    Calls Tryd.prog 5 #[.string (str l)] w fun e w' => e = .returned (.bool true) ∧ Ext w w' := by
  have HPR := hide (printable_any l hl 40 (by omega) w)
  obtain ⟨s, hs⟩ : ∃ s, prnL (l.take 40) = s := ⟨_, rfl⟩
  have hsl : s.length ≤ 40 := by rw [← hs]; simp [prnL]; omega
  have hsp : Printable s := by rw [← hs]; exact prnL_ok _
  rw [hs] at HPR
  have hql : (quoteL s).length ≤ 200 := by have := escQ_len s; simp [quoteL]; omega
  have HSP := hide (fun w => split_any (quoteL s) hql (prn_quote s hsp) w)
  obtain ⟨k0, hk0⟩ := split_quote s
  rw [hk0] at HSP
  have HM := hide hm
  clear hsp hs hm hk0
  go_enter Tryd.func5, Tryd.ntmps5
  go_wp2_with fail
  refine HPR.out.mono ?_
  rintro e w0 ⟨rfl, hx0⟩
  have HX0 := hide hx0
  have HQ := hide (quote_any s (by omega) w0 (HM.out.ext hx0))
  clear hx0 HPR
  go_wp2_with fail
  refine HQ.out.mono ?_
  rintro e w1 ⟨rfl, hx1⟩
  have HX1 := hide (HX0.out.trans hx1)
  clear hx1 HQ
  go_wp2_with fail
  refine (HSP.out w1).mono ?_
  rintro e w2 ⟨hx2, A, c, ls, rfl, hts, htk, -⟩
  have HX2 := hide (HX1.out.trans hx2)
  have hl1 : ls.length = 1 := by have := congrArg List.length hts; simpa using this
  have h0 : (ls[0]'(by omega)).1 = ⟨[], [⟨s, false, true⟩], k0⟩ := by
    have := congrArg (fun l => l[0]?) hts
    simp only [List.getElem?_map, List.getElem?_eq_getElem (show 0 < ls.length by omega)] at this
    simpa using this
  have hrd := Reads.of_own htk.own
  obtain ⟨b, off, rfl, -⟩ := hrd.addr (by omega) (by omega)
  obtain ⟨Ap, cp, ep, op⟩ := htk.parts _ (List.getElem_mem (show 0 < ls.length by omega))
  have q0 := Reads.elem tokC_len hrd 0 (by omega) (by omega) 0 (by omega) (u := .string (str (ls[0]'(by omega)).1.op)) rfl
  have q1 := Reads.elem tokC_len hrd 0 (by omega) (by omega) 1 (by omega) (u := (ls[0]'(by omega)).2) rfl
  have q2 := Reads.elem tokC_len hrd 0 (by omega) (by omega) 2 (by omega) (u := .int .i64 ((ls[0]'(by omega)).1.at_ : Int)) rfl
  rw [ep] at q1
  rw [h0] at q0 q1 q2 op
  have hstr : str ([] : List UInt8) = ⟨#[]⟩ := rfl
  simp only [Nat.zero_mul, Nat.add_zero, hstr, List.length_singleton] at q0 q1 q2
  have HOP := hide (Reads.of_own op)
  have HXV := hide ((Ext.refl w2).alloc (.cells #[.string ⟨#[97]⟩, .string ⟨#[98]⟩] 25))
  have HVR := hide ((Blk.new w2 25 #[.string ⟨#[97]⟩, .string ⟨#[98]⟩]).rowsF 1 2 rfl)
  have HEX := hide (expand_any [⟨s, false, true⟩] Ap cp w2.heap.size (k0 : Int) (some ⟨w2.heap.size, 0, none⟩) 1 _ [⟨[97], [98]⟩] ((3 : Nat) : Int) (Lib.decDigits 3) (w2.alloc (.cells #[.string ⟨#[97]⟩, .string ⟨#[98]⟩] 25)) (HXV.out.reads HOP.out (Nat.le_refl _)) HXV.out.size HVR.out (Nat.le_refl _) (by simp) (by intro v hv; simp at hv; subst hv; exact ⟨by decide, by simp, by simp⟩) (of_decide_eq_true (by kernel_rfl)) (itoa_small 3 (by omega) _) (by simp) (by intro p hp; simp at hp; subst hp; dsimp only; omega) (by rw [fields_quote]; simp))
  rw [fields_quote] at HEX
  simp only [List.length_singleton] at HEX
  rw [hl1]
  clear hts htk h0 hrd ep op hx2 hl1 hstr HSP
  go_wp2_with fail
  refine HEX.out.mono ?_
  rintro e w3 ⟨A3, c3, rfl, ho3, hx3⟩
  have HX3 := hide ((HX2.out.trans HXV.out).trans hx3)
  obtain ⟨g, rfl, -, -, hc3, -⟩ := own_addr ho3 (by omega)
  have d0 : w3.cell? ⟨g, 0, none⟩ = some (.string (str s)) := by
    have := (Reads.of_own ho3).2 (by omega)
    obtain ⟨ad, e, -, hc⟩ := this
    injection e with e
    subst e
    have := hc 0 (.string (str s)) rfl
    simpa [add_lit] using this
  clear ho3 hx3 HEX
  go_wp2_with fail
  go_ret
  exact ⟨rfl, HX3.out⟩
end Go.Proofs.YtapjfiifpfoppaaDoor
