/- The walk of WordsParted, put together. -/
import Derived.Test.YtapjfiifpfoppaaDoorWPartW
namespace Go.Proofs.YtapjfiifpfoppaaDoor
open Go.RowKit
set_option linter.unusedVariables false

theorem rest_nat (z : Int) (k : Nat) (hk : 0 < k) : ∃ m : Nat, restZ z k = (m : Int) ∧ m < k := by
  have h1 := restZ_lo z k (by omega)
  have h2 := restZ_hi z k (by omega)
  exact ⟨(restZ z k).toNat, by omega, by omega⟩
theorem tok_five {ts : List TokD} {ls : List (TokD × Value)} (hts : ls.map (·.1) = ts) {w2 : World} {B g c : Nat} (htk : ToksAt w2 B (some ⟨g, 0, none⟩) c ls) (i : Nat) (T : TokD) (hT : ts[i]? = some T) (np a0 a1 a2 : Nat) (hnp : T.parts.length = np) (h0 : i * 3 = a0) (h1 : i * 3 + 1 = a1) (h2 : i * 3 + 2 = a2) (hop : T.op = []) :
    ∃ Ap cp, (∀ W, Ext w2 W → W.cell? ⟨g, a0, none⟩ = some (.string ⟨#[]⟩) ∧ W.cell? ⟨g, a1, none⟩ = some (.slice Ap np cp) ∧ W.cell? ⟨g, a2, none⟩ = some (.int .i64 (T.at_ : Int))) ∧ (∀ W, Ext w2 W → Reads W w2.heap.size 3 Ap T.parts.length (T.parts.flatMap partC)) := by
  subst hts hnp h0 h1 h2
  obtain ⟨x, hx, rfl⟩ : ∃ x, ls[i]? = some x ∧ x.1 = T := by
    rw [List.getElem?_map] at hT
    cases hl : ls[i]? with
    | none => rw [hl] at hT; cases hT
    | some x => rw [hl] at hT; exact ⟨x, rfl, by simpa using hT⟩
  obtain ⟨hi, hx⟩ := List.getElem?_eq_some_iff.1 hx
  subst hx
  obtain ⟨Ap, cp, ep, op⟩ := htk.parts _ (List.getElem_mem hi)
  refine ⟨Ap, cp, fun W hW => ?_, fun W hW => hW.reads (Reads.of_own op) (Nat.le_refl _)⟩
  have hrd := hW.reads (Reads.of_own htk.own) (Nat.le_refl _)
  have hv : ∀ (j : Nat) (hj : j < 3) (u : Value), (tokC ls[i])[j]? = some u → W.cell? ⟨g, i * 3 + j, none⟩ = some u := fun j hj u hu => by
    have := Reads.elem tokC_len hrd i hi (by omega) j hj hu
    rwa [Nat.zero_add] at this
  refine ⟨?_, ?_, hv 2 (by omega) _ rfl⟩
  · have := hv 0 (by omega) (.string (str ls[i].1.op)) rfl
    rw [hop] at this
    exact this
  · have := hv 1 (by omega) ls[i].2 rfl
    rw [ep] at this
    exact this
theorem exp_at (ps : List PartD) (np : Nat) (hnp : ps.length = np) (out : List (List UInt8)) (m : Nat) (hm : out.length = m) (hm4 : m ≤ 40) (Ap : Option Addr) (cp Bp : Nat) (at_ : Int) (A : Option Addr) (c B : Nat) (vs : List VarD) (nv : Nat) (hnv : vs.length = nv) (n : Int) (st : List UInt8) (hf : fieldsD ps vs st = out) (w : World) (hp : Reads w Bp 3 Ap ps.length (ps.flatMap partC)) (hBp : Bp ≤ w.heap.size)
    (hr : Reads w B 2 A vs.length (vs.flatMap varC)) (hB : B ≤ w.heap.size) (hv : vs.length ≤ 100) (hvs : VarsOk vs) (hst : st.length ≤ 60) (hi : ItoaAt w n st) (hpl : ps.length ≤ 60) (hpt : ∀ p ∈ ps, p.text.length ≤ 1000) :
    Calls Tryd.prog 9 #[.agg #[.string ⟨#[]⟩, .slice Ap np cp, .int .i64 at_], .slice A nv c, .int .i64 n] w fun e w' => ∃ A' c', e = .returned (.tuple #[.slice A' m c', .int .i64 0]) ∧ Reads w' w'.heap.size 1 A' out.length (strsV out) ∧ Ext w w' := by
  subst hnp hm hf hnv
  exact (expand_any ps Ap cp Bp at_ A c B vs n st w hp hBp hr hB hv hvs hst hi hpl hpt hm4).mono fun e w' ⟨A', c', h1, h2, h3⟩ => ⟨A', c', h1, Reads.of_own h2, h3⟩
theorem itoa_ext {w w' : World} {n : Int} {st : List UInt8} (h : ItoaAt w n st) (hx : Ext w w') : ItoaAt w' n st := fun W hW => h W (hx.trans hW)
theorem lit_one (w : World) (s : List UInt8) : Ext w (w.alloc (.cells #[.string (str s)] 9)) ∧ Reads (w.alloc (.cells #[.string (str s)] 9)) (w.alloc (.cells #[.string (str s)] 9)).heap.size 1 (some ⟨w.heap.size, 0, none⟩) 1 (strsV [s]) :=
  ⟨(Ext.refl w).alloc _, (Blk.new w 9 #[.string (str s)]).reads⟩
set_option maxHeartbeats 8000000 in
set_option maxRecDepth 100000 in
theorem parted_walk (l : List UInt8) (hl : l.length ≤ 9223372036854775807) (z : Int) (hz : -9223372036854775808 ≤ z) (hz' : z ≤ 9223372036854775807) (w : World) (ht : TabOk w) :
    Calls Tryd.prog 3 #[.string (str l), .int .i64 z] w fun e w' => e = .returned (.bool true) ∧ Ext w w' := by
  have HPR := hide (printable_any l hl 50 (by omega) w)
  obtain ⟨s, hs⟩ : ∃ s, prnL (l.take 50) = s := ⟨_, rfl⟩
  have hsl : s.length ≤ 50 := by rw [← hs]; simp [prnL]; omega
  have hsp : Printable s := by rw [← hs]; exact prnL_ok _
  rw [hs] at HPR
  have HSP := hide (fun w => split_any [36, 120, 32, 34, 36, 120, 34, 32, 97, 36, 63, 98, 32, 36, 110, 111, 110, 101, 32, 34, 36, 110, 111, 110, 101, 34] (by decide) (by show ∀ c ∈ [36, 120, 32, 34, 36, 120, 34, 32, 97, 36, 63, 98, 32, 36, 110, 111, 110, 101, 32, 34, 36, 110, 111, 110, 101, 34], 32 ≤ UInt8.toNat c ∧ UInt8.toNat c ≤ 126; decide) w)
  rw [split_five] at HSP
  have HRE := hide (fun w => rest_any z 256 w hz hz' (by omega) (by omega))
  obtain ⟨k, hk, hk2⟩ : ∃ k : Nat, restZ z 256 = (k : Int) ∧ k < 256 := rest_nat z 256 (by omega)
  rw [hk] at HRE
  have HIT := hide (itoa_tab k (by omega) w ht)
  have HI3 := hide (fun w => itoa_3 k (by omega) w)
  have hdl := dec_len k (by omega)
  have HDD := hide (dec_digits k)
  obtain ⟨D, hD⟩ : ∃ D, Lib.decDigits k = D := ⟨_, rfl⟩
  rw [hD] at HIT HI3 hdl HDD
  have HFF := hide (fun w => fields_any s (by omega) hsp w)
  have hsf := sepF_len s hsl
  have HAB : Hid ((⟨#[97]⟩ : ByteArray) ++ str D ++ ⟨#[98]⟩ = str (97 :: (D ++ [98]))) := by
    rw [show (⟨#[97]⟩ : ByteArray) = str [97] from rfl, show (⟨#[98]⟩ : ByteArray) = str [98] from rfl, str_append, str_append]
    exact hide rfl
  have hDs : (str D).size = D.length := str_size D
  clear hs hk hD hsp ht
  go_enter Tryd.func3, Tryd.ntmps3
  go_wp2_with fail
  refine HPR.out.mono ?_
  rintro e w0 ⟨rfl, hx0⟩
  have HX0 := hide hx0
  clear hx0 HPR
  go_wp2_with fail
  refine (HRE.out w0).mono ?_
  rintro e w0' ⟨rfl, rfl⟩
  have HXV := hide ((Ext.refl w0).alloc (.cells #[.string ⟨#[120]⟩, .string (str s), .string ⟨#[120]⟩, .string ⟨#[110, 111]⟩] 25))
  have HVR := hide ((Blk.new w0 25 #[.string ⟨#[120]⟩, .string (str s), .string ⟨#[120]⟩, .string ⟨#[110, 111]⟩]).rowsF 2 2 rfl)
  clear HRE
  go_wp2_with fail
  refine (HSP.out _).mono ?_
  rintro e w2 ⟨hx2, A, c, ls, rfl, hts, htk, -⟩
  have hl5 : ls.length = 5 := by have := congrArg List.length hts; simpa using this
  obtain ⟨g, rfl, -⟩ := own_addr htk.own (by omega)
  obtain ⟨Ap0, cp0, c0, r0⟩ := tok_five hts htk 0 ⟨[], [⟨[120], true, false⟩], 0⟩ rfl 1 0 1 2 rfl rfl rfl rfl rfl
  have C0 := hide c0
  have R0 := hide r0
  clear c0 r0
  obtain ⟨Ap1, cp1, c1, r1⟩ := tok_five hts htk 1 ⟨[], [⟨[120], true, true⟩], 3⟩ rfl 1 3 4 5 rfl rfl rfl rfl rfl
  have C1 := hide c1
  have R1 := hide r1
  clear c1 r1
  obtain ⟨Ap2, cp2, c2, r2⟩ := tok_five hts htk 2 ⟨[], [⟨[97], false, false⟩, ⟨[63], true, false⟩, ⟨[98], false, false⟩], 8⟩ rfl 3 6 7 8 rfl rfl rfl rfl rfl
  have C2 := hide c2
  have R2 := hide r2
  clear c2 r2
  obtain ⟨Ap3, cp3, c3, r3⟩ := tok_five hts htk 3 ⟨[], [⟨[110, 111, 110, 101], true, false⟩], 13⟩ rfl 1 9 10 11 rfl rfl rfl rfl rfl
  have C3 := hide c3
  have R3 := hide r3
  clear c3 r3
  obtain ⟨Ap4, cp4, c4, r4⟩ := tok_five hts htk 4 ⟨[], [⟨[110, 111, 110, 101], true, true⟩], 19⟩ rfl 1 12 13 14 rfl rfl rfl rfl rfl
  have C4 := hide c4
  have R4 := hide r4
  clear c4 r4
  rw [hl5]
  have HX2 := hide ((HX0.out.trans HXV.out).trans hx2)
  have HV2 := hide (hx2.reads HVR.out (Nat.le_refl _))
  have HV2B := hide hx2.size
  have HY2 := hide (Ext.refl w2)
  have HVOK := hide (show VarsOk [⟨[120], s⟩, ⟨[120], [110, 111]⟩] by intro v hv; simp at hv; rcases hv with rfl | rfl <;> refine ⟨by show nameB [120] = true; decide, by simp; try omega, by simp; try omega⟩)
  clear hts htk hx2 hl5 HSP HVR
  obtain ⟨q0a, q0b, q0c⟩ := C0.out w2 HY2.out
  have HE0 := hide (exp_at [⟨[120], true, false⟩] 1 rfl (sepF s) _ rfl hsf Ap0 cp0 w2.heap.size ((0 : Nat) : Int) (some ⟨w0.heap.size, 0, none⟩) 2 _ [⟨[120], s⟩, ⟨[120], [110, 111]⟩] 2 rfl (k : Int) D (five_a s D) w2 (R0.out w2 HY2.out) HY2.out.size (HY2.out.reads HV2.out HV2B.out) (Nat.le_trans HV2B.out HY2.out.size) (by simp) HVOK.out (by omega) (itoa_ext HIT.out (HX2.out.trans HY2.out)) (by simp) (by intro p hp; simp at hp; subst hp; simp))
  go_wp2_with fail
  refine HE0.out.mono ?_
  rintro e w3 ⟨A0, c0, rfl, o0, hx⟩
  have HO0 := hide o0
  have HY3 := hide (HY2.out.trans hx)
  have HZ3 := hide hx
  clear hx o0 HE0 q0a q0b q0c
  obtain ⟨q1a, q1b, q1c⟩ := C1.out w3 HY3.out
  have HE1 := hide (exp_at [⟨[120], true, true⟩] 1 rfl [s] 1 rfl (by omega) Ap1 cp1 w2.heap.size ((3 : Nat) : Int) (some ⟨w0.heap.size, 0, none⟩) 2 _ [⟨[120], s⟩, ⟨[120], [110, 111]⟩] 2 rfl (k : Int) D (five_b s D) w3 (R1.out w3 HY3.out) HY3.out.size (HY3.out.reads HV2.out HV2B.out) (Nat.le_trans HV2B.out HY3.out.size) (by simp) HVOK.out (by omega) (itoa_ext HIT.out (HX2.out.trans HY3.out)) (by simp) (by intro p hp; simp at hp; subst hp; simp))
  go_wp2_with fail
  refine HE1.out.mono ?_
  rintro e w4 ⟨A1, c1, rfl, o1, hx⟩
  have HO1 := hide o1
  have HY4 := hide (HY3.out.trans hx)
  have HZ4 := hide hx
  clear hx o1 HE1 q1a q1b q1c
  obtain ⟨q2a, q2b, q2c⟩ := C2.out w4 HY4.out
  have HE2 := hide (exp_at [⟨[97], false, false⟩, ⟨[63], true, false⟩, ⟨[98], false, false⟩] 3 rfl [97 :: (D ++ [98])] 1 rfl (by omega) Ap2 cp2 w2.heap.size ((8 : Nat) : Int) (some ⟨w0.heap.size, 0, none⟩) 2 _ [⟨[120], s⟩, ⟨[120], [110, 111]⟩] 2 rfl (k : Int) D (five_c s D HDD.out) w4 (R2.out w4 HY4.out) HY4.out.size (HY4.out.reads HV2.out HV2B.out) (Nat.le_trans HV2B.out HY4.out.size) (by simp) HVOK.out (by omega) (itoa_ext HIT.out (HX2.out.trans HY4.out)) (by simp) (by intro p hp; simp at hp; rcases hp with rfl | rfl | rfl <;> simp))
  go_wp2_with fail
  refine HE2.out.mono ?_
  rintro e w5 ⟨A2, c2, rfl, o2, hx⟩
  have HO2 := hide o2
  have HY5 := hide (HY4.out.trans hx)
  have HZ5 := hide hx
  clear hx o2 HE2 q2a q2b q2c
  obtain ⟨q3a, q3b, q3c⟩ := C3.out w5 HY5.out
  have HE3 := hide (exp_at [⟨[110, 111, 110, 101], true, false⟩] 1 rfl [] 0 rfl (by omega) Ap3 cp3 w2.heap.size ((13 : Nat) : Int) (some ⟨w0.heap.size, 0, none⟩) 2 _ [⟨[120], s⟩, ⟨[120], [110, 111]⟩] 2 rfl (k : Int) D (five_d s D) w5 (R3.out w5 HY5.out) HY5.out.size (HY5.out.reads HV2.out HV2B.out) (Nat.le_trans HV2B.out HY5.out.size) (by simp) HVOK.out (by omega) (itoa_ext HIT.out (HX2.out.trans HY5.out)) (by simp) (by intro p hp; simp at hp; subst hp; simp))
  go_wp2_with fail
  refine HE3.out.mono ?_
  rintro e w6 ⟨A3, c3, rfl, o3, hx⟩
  have HO3 := hide o3
  have HY6 := hide (HY5.out.trans hx)
  have HZ6 := hide hx
  clear hx o3 HE3 q3a q3b q3c
  obtain ⟨q4a, q4b, q4c⟩ := C4.out w6 HY6.out
  have HE4 := hide (exp_at [⟨[110, 111, 110, 101], true, true⟩] 1 rfl [[]] 1 rfl (by omega) Ap4 cp4 w2.heap.size ((19 : Nat) : Int) (some ⟨w0.heap.size, 0, none⟩) 2 _ [⟨[120], s⟩, ⟨[120], [110, 111]⟩] 2 rfl (k : Int) D (five_e s D) w6 (R4.out w6 HY6.out) HY6.out.size (HY6.out.reads HV2.out HV2B.out) (Nat.le_trans HV2B.out HY6.out.size) (by simp) HVOK.out (by omega) (itoa_ext HIT.out (HX2.out.trans HY6.out)) (by simp) (by intro p hp; simp at hp; subst hp; simp))
  go_wp2_with fail
  refine HE4.out.mono ?_
  rintro e w7 ⟨A4, c4, rfl, o4, hx⟩
  have HO4 := hide o4
  have HY7 := hide (HY6.out.trans hx)
  have HZ7 := hide hx
  clear hx o4 HE4 q4a q4b q4c
  clear HIT HVOK
  go_wp2_with fail
  refine (HI3.out w7).mono ?_
  rintro e w8 ⟨rfl, hx⟩
  have HZ8 := hide hx
  clear hx
  go_wp2_with fail
  refine (HFF.out w8).mono ?_
  rintro e w9 ⟨Af, cf, rfl, of, hx9⟩
  have HOF := hide (Reads.of_own of)
  have HY9 := hide ((HZ8.out).trans hx9)
  clear hx9 of
  go_wp2_with fail
  have HX9 := hide (HX2.out.trans (HY7.out.trans HY9.out))
  have HW7 := hide (HZ7.out.trans HY9.out)
  have HW6 := hide (HZ6.out.trans HW7.out)
  have HW5 := hide (HZ5.out.trans HW6.out)
  have HW4 := hide (HZ4.out.trans HW5.out)
  refine (strs_equal (sepF s) A0 Af c0 cf w3.heap.size w9.heap.size w9 (HW4.out.reads HO0.out (Nat.le_refl _)) HOF.out HW4.out.size (Nat.le_refl _) (by omega)).mono ?_
  rintro e w10 ⟨rfl, hx⟩
  have HXA := hide hx
  have HL1 := hide (lit_one w10 s)
  clear hx
  go_wp2_with fail
  have HYA := hide ((HXA.out).trans HL1.out.1)
  refine (strs_equal [s] A1 _ c1 1 w4.heap.size _ _ ((HW5.out.trans HYA.out).reads HO1.out (Nat.le_refl _)) HL1.out.2 (HW5.out.trans HYA.out).size (Nat.le_refl _) (by simp)).mono ?_
  rintro e w11 ⟨rfl, hx⟩
  have HXB := hide (HYA.out.trans hx)
  have HL2 := hide (lit_one w11 (97 :: (D ++ [98])))
  clear hx
  go_wp2_with fail
  rw [HAB.out]
  have HYB := hide ((HXB.out).trans HL2.out.1)
  refine (strs_equal [97 :: (D ++ [98])] A2 _ c2 1 w5.heap.size _ _ ((HW6.out.trans HYB.out).reads HO2.out (Nat.le_refl _)) HL2.out.2 (HW6.out.trans HYB.out).size (Nat.le_refl _) (by simp)).mono ?_
  rintro e w12 ⟨rfl, hx⟩
  have HXC := hide (HYB.out.trans hx)
  have HL3 := hide (lit_one w12 [])
  clear hx
  go_wp2_with fail
  have HYC := hide ((HXC.out).trans HL3.out.1)
  refine (strs_equal [[]] A4 _ c4 1 w7.heap.size _ _ ((HY9.out.trans HYC.out).reads HO4.out (Nat.le_refl _)) HL3.out.2 (HY9.out.trans HYC.out).size (Nat.le_refl _) (by simp)).mono ?_
  rintro e w13 ⟨rfl, hx⟩
  have HXD := hide (HX9.out.trans (HYC.out.trans hx))
  clear hx
  go_wp2_with fail
  go_ret
  exact ⟨rfl, HXD.out⟩
end Go.Proofs.YtapjfiifpfoppaaDoor
