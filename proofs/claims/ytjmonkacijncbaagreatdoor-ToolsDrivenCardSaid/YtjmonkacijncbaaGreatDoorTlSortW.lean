/- The walk of ToolsSorted. -/
import Derived.Test.YtjmonkacijncbaaGreatDoorTlSortP
import Derived.Test.YtjmonkacijncbaaGreatDoorTlOnceW
namespace Go.Proofs.YtjmonkacijncbaaGreatDoor
open Go.RowKit
set_option linter.unusedVariables false

def opSa : Op := .convert 9 22 (.tmp 30)
def opSb : Op := .convert 9 22 (.tmp 38)
def opSe : Op := .convert 22 22 (.tmp 46)
theorem opSa_eq : opSa = .convert 9 22 (.tmp 30) := rfl
theorem opSb_eq : opSb = .convert 9 22 (.tmp 38) := rfl
theorem opSe_eq : opSe = .convert 22 22 (.tmp 46) := rfl
theorem four_bytes (W : World) : Reads (W.alloc (.cells #[.int .u8 98, .int .u8 10, .int .u8 97, .int .u8 10] 5 (4, 5))) (W.alloc (.cells #[.int .u8 98, .int .u8 10, .int .u8 97, .int .u8 10] 5 (4, 5))).heap.size 1 (some ⟨W.heap.size, 0, none⟩) 4 (bytesV [98, 10, 97, 10]) := by
  refine ⟨rfl, fun _ => ⟨_, rfl, by simp, fun j u hu => ?_⟩⟩
  rw [add_lit, Nat.zero_add, cell_of_row _ W.heap.size j _ _ _ (heap_alloc_new W _)]
  simpa [bytesV] using hu
set_option maxHeartbeats 8000000 in
set_option maxRecDepth 100000 in
theorem sorted_walk (b : Bs) (A : Option Addr) (n c : Nat) (w : World) (hr : Reads w w.heap.size 1 A n (bytesV b)) (hnc : n ≤ c) (hc : c ≤ maxLen) (hL : LibOk w) :
    Calls Tryz.prog 5 #[.slice A n c] w fun e w' => e = .returned (.bool true) ∧ Ext w w' := by
  obtain ⟨i0, hi0, hz0, hz1, hz2⟩ := info_parts byte_info
  have HCUT := hide (cut_any A n c 300 w hnc hc (by decide))
  have HCL := hide (bclone_any A (min n 300) c w.heap.size (bytesV (b.take 300)) w (take_bytes hr 300) (bytesV_one _) (Nat.le_refl _) (by omega) (fun e => by have := some_of hr e; omega))
  have HLL := hide hL
  have HIN := hide (inP_len b)
  have HINP := hide (show inP b = b.take 300 ++ [10] from rfl)
  have HTAC := hide (tac_law (b.take 300))
  rw [← HINP.out] at HTAC
  have hine : inP b ≠ [] := by unfold inP; simp
  have hl300 : (b.take 300).length = min n 300 := by rw [List.length_take, bytes_len hr]; omega
  have HL3 := hide hl300
  clear hr hL hl300
  generalize b.take 300 = b3 at *
  generalize inP b = I at *
  generalize hm3 : min n 300 = m3 at *
  have hm3' : m3 ≤ 300 := by omega
  clear hm3
  go_enter Tryz.func5, Tryz.ntmps5
  go_wp2_with fail
  refine HCUT.out.mono ?_
  rintro e w0 ⟨rfl, rfl⟩
  go_wp2_with fail
  refine HCL.out.mono ?_
  rintro e w1 ⟨A1, c1, rfl, ho1, hx1⟩
  have HO1 := hide ho1
  have HX1 := hide hx1
  clear ho1 hx1
  go_upto_region 2 with (at_builtin; refine wpList_append_any _ rfl (.tmp 8) (.tmp 9) 22 rfl w.heap.size 5 i0 _ 1 1 Tryz.underlying22 hi0 hz0 hz1 hz2 rfl (by omega) _ m3 (bytesV b3) rfl (HO1.out.alloc _) _ _ 1 1 [.int .u8 10] rfl (Blk.new w1 5 #[.int .u8 10]).reads (by simp [Value.oneCell']) (by simp only [maxLen]; omega) (by omega) (Nat.le_trans HX1.out.size (by simp)) ?_; intro A4 c4 w4 ho4 hg4 ha4)
  obtain ⟨m, hm⟩ : ∃ m, m3 + 1 = m := ⟨_, rfl⟩
  have ho5 : w4.ownsRow w.heap.size 5 1 (.slice A4 m c4) m (bytesV I) := by
    rw [HINP.out, bytesV_append, ← hm]
    exact ho4
  have HO5 := hide ho5
  have HX4 := hide ((HX1.out.alloc _).grown hg4 (fun j hj => (HO1.out.lt j hj).1))
  rw [hm]
  have hm301 : m ≤ 301 := by omega
  clear ho4 hg4 ha4 hm ho5 HINP HIN HO1 HX1 HCUT HCL HL3
  have hIm : I.length = m := by have := HO5.out.1; rw [bytesV_length] at this; omega
  have hlt := lines_text_len I
  have HUL := hide (show (textP (sortS (linesP I))).length ≤ 302 from by rw [sort_text_len]; omega)
  have HTL := hide (show (textP (linesP I).reverse).length ≤ 302 from by rw [tac_text_len]; omega)
  have HLN := hide (cut_trim hine)
  have hlne : linesP I ≠ [] := by rw [← HLN.out]; exact cutNl_ne _
  have hsne : sortS (linesP I) ≠ [] := fun e => hlne (List.eq_nil_of_length_eq_zero (by rw [← sortS_len, e]; rfl))
  have HUN := hide (show cutNl (Lib.trimSuffix (textP (sortS (linesP I))) [10]) = sortS (linesP I) from by rw [cut_trim (text_ne hsne), sortS_text])
  have HSRT := hide (sort_law I)
  have hlsm := lines_small I
  have HM1 := hide (fun (W : World) (hx : Ext w4 W) =>
    show Calls Tryz.prog 12 #[.string ⟨#[115, 111, 114, 116]⟩, .slice A4 m c4, .slice none 0 0] W fun e w' => e = .returned (.string (str (textP (sortS (linesP I))))) ∧ Ext W w' from
    kmean mean_sort I W none 0 0 W.heap.size A4 m c4 W.heap.size (HLL.out.ext (HX4.out.trans hx)) Reads.none_ (Nat.le_refl _) (Nat.le_refl _) (Reads.of_own (hx.own HO5.out)) (Nat.le_refl _) (own_le HO5.out).1 (by omega) (own_cap HO5.out))
  have HM2 := hide (fun (W : World) (hx : Ext w4 W) =>
    show Calls Tryz.prog 12 #[.string ⟨#[116, 97, 99]⟩, .slice A4 m c4, .slice none 0 0] W fun e w' => e = .returned (.string (str (textP (linesP I).reverse))) ∧ Ext W w' from
    kmean mean_tac I W none 0 0 W.heap.size A4 m c4 W.heap.size (HLL.out.ext (HX4.out.trans hx)) Reads.none_ (Nat.le_refl _) (Nat.le_refl _) (Reads.of_own (hx.own HO5.out)) (Nat.le_refl _) (own_le HO5.out).1 (by omega) (own_cap HO5.out))
  have HCV := hide (fun (W : World) (hx : Ext w4 W) => conv_str' (P := Tryz.prog) (w := W) Tryz.underlying22 Tryz.underlying5 Tryz.underlying9 (Reads.of_own (hx.own HO5.out)) c4)
  obtain ⟨U, hU⟩ : ∃ U, textP (sortS (linesP I)) = U := ⟨_, rfl⟩
  obtain ⟨T, hT⟩ : ∃ T, textP (linesP I).reverse = T := ⟨_, rfl⟩
  rw [hU] at HM1 HUL HUN HSRT
  rw [hT] at HM2 HTL HTAC
  obtain ⟨k, hk⟩ : ∃ k, (linesP I).length = k := ⟨_, rfl⟩
  have hk302 : k ≤ 302 := by omega
  have hk0 : 0 < k := by
    rcases Nat.eq_zero_or_pos k with h | h
    · exact absurd (List.eq_nil_of_length_eq_zero (by rw [hk, h])) hlne
    · exact h
  have HK := hide hk
  have hIm2 : I.length ≤ 1000000 := by omega
  clear hlt hlne hsne hlsm hine hk hU hT hIm
  go_wp2_with fail
  refine (HM1.out w4 (Ext.refl _)).mono ?_
  rintro e w5 ⟨rfl, hx5⟩
  have HX5 := hide hx5
  have HTR := hide (trim_lib U (by have := HUL.out; omega) w5)
  have htu : (Lib.trimSuffix U [10]).length ≤ 1000000 := by have := trim_le U; have := HUL.out; omega
  clear hx5
  go_wp2_with fail
  refine HTR.out.mono ?_
  rintro e w6 ⟨rfl, rfl⟩
  have HSP := hide (split_own (Lib.trimSuffix U [10]) htu w5 (HLL.out.ext (HX4.out.trans HX5.out)))
  rw [HUN.out] at HSP
  clear htu HTR
  go_wp2_with fail
  refine HSP.out.mono ?_
  rintro e w6 ⟨k1, hk1, -, -, rfl, ho6, hx6⟩
  obtain rfl : k1 = k := by rw [hk1, sortS_len, HK.out]
  have HO6 := hide ho6
  have HX6 := hide (HX5.out.trans hx6)
  generalize w5.heap.size = g5 at *
  clear hx6 ho6 hk1 HSP HX5
  have hcv6 := HCV.out w6 HX6.out
  have HTI := hide (trim_lib I hIm2 w6)
  have hti : (Lib.trimSuffix I [10]).length ≤ 1000000 := by have := trim_le I; omega
  go_wp2_with fail
  refine HTI.out.mono ?_
  rintro e w7 ⟨rfl, rfl⟩
  have HSQ := hide (split_own (Lib.trimSuffix I [10]) hti w6 (HLL.out.ext (HX4.out.trans HX6.out)))
  rw [HLN.out] at HSQ
  clear hti HTI hcv6
  go_wp2_with fail
  refine HSQ.out.mono ?_
  rintro e w7 ⟨k2, hk2, -, -, rfl, ho7, hx7⟩
  obtain rfl : k2 = k1 := by rw [hk2, HK.out]
  have HSO := hide (ssort_own _ k2 k2 _ (linesP I) w6 w7 ho7 hx7 (Nat.le_refl _) (by omega))
  generalize w6.heap.size = g6 at *
  clear ho7 hx7 hk2 HSQ
  go_wp2_with fail
  refine HSO.out.mono ?_
  rintro e W0 ⟨rfl, ho8, hx8⟩
  have HO8 := hide ho8
  have HL0 := hide (hx8.own HO6.out)
  have HX0 := hide (HX6.out.trans hx8)
  clear ho8 hx8 HSO HO6 HX6
  have HIS := hide (fun (W : World) (hx : Ext W0 W) => issorted_any (sortS (linesP I)) (sortS_pair _) _ k2 k2 W.heap.size W (Reads.of_own (hx.own HL0.out)) hk0 (by omega))
  have HEQ := hide (fun (W : World) (hx : Ext W0 W) => sequal_any (sortS (linesP I)) _ _ k2 k2 k2 W.heap.size W.heap.size W (Reads.of_own (hx.own HL0.out)) (Reads.of_own (hx.own HO8.out)) hk0 (by omega))
  clear HL0 HO8
  obtain ⟨mu, hmu⟩ : ∃ mu, U.length = mu := ⟨_, rfl⟩
  obtain ⟨mt, hmt⟩ : ∃ mt, T.length = mt := ⟨_, rfl⟩
  have huL := HUL.out
  have htL := HTL.out
  have hcu := conv_run U
  have hct := conv_run T
  have hru := conv_reads U
  have hrt := conv_reads T
  rw [hmu] at hcu hru huL
  rw [hmt] at hct hrt htL
  have HRU := hide hru
  have HRT := hide hrt
  have HN1 := hide (fun (W : World) (hx : Ext W0 W) =>
    show Calls Tryz.prog 12 #[.string ⟨#[115, 111, 114, 116]⟩, .slice (some ⟨W.heap.size, 0, none⟩) mu (grownCap W mu 0 5), .slice none 0 0] (Lib.bytesWorld W 5 (str U)) fun e w' => e = .returned (.string (str U)) ∧ Ext (Lib.bytesWorld W 5 (str U)) w' from by
    have h := kmean mean_sort U (Lib.bytesWorld W 5 (str U)) none 0 0 _ (some ⟨W.heap.size, 0, none⟩) mu (grownCap W mu 0 5) _ (HLL.out.ext (HX4.out.trans (HX0.out.trans (hx.trans (bytesWorld_ext _ _ _))))) Reads.none_ (Nat.le_refl _) (Nat.le_refl _) (HRU.out W) (Nat.le_refl _) (grownCap_ge _ _ _ _) (by omega) (fun e => by cases e)
    rw [HSRT.out] at h
    exact h)
  have HN2 := hide (fun (W : World) (hx : Ext W0 W) => HM2.out W (HX0.out.trans hx))
  have HN3 := hide (fun (W : World) (hx : Ext W0 W) =>
    show Calls Tryz.prog 12 #[.string ⟨#[116, 97, 99]⟩, .slice (some ⟨W.heap.size, 0, none⟩) mt (grownCap W mt 0 5), .slice none 0 0] (Lib.bytesWorld W 5 (str T)) fun e w' => e = .returned (.string (str I)) ∧ Ext (Lib.bytesWorld W 5 (str T)) w' from by
    have h := kmean mean_tac T (Lib.bytesWorld W 5 (str T)) none 0 0 _ (some ⟨W.heap.size, 0, none⟩) mt (grownCap W mt 0 5) _ (HLL.out.ext (HX4.out.trans (HX0.out.trans (hx.trans (bytesWorld_ext _ _ _))))) Reads.none_ (Nat.le_refl _) (Nat.le_refl _) (HRT.out W) (Nat.le_refl _) (grownCap_ge _ _ _ _) (by omega) (fun e => by cases e)
    rw [HTAC.out] at h
    exact h)
  have hkc := fun (W : World) => Lib.run_convert_bytes_const (P := Tryz.prog) W 22 5 #[.int .u8 98, .int .u8 10, .int .u8 97, .int .u8 10] 4 4 Tryz.underlying22 Tryz.underlying5
  have HN4 := hide (fun (W : World) (hx : Ext W0 W) =>
    show Calls Tryz.prog 12 #[.string ⟨#[115, 111, 114, 116]⟩, .slice (some ⟨W.heap.size, 0, none⟩) 4 4, .slice none 0 0] (W.alloc (.cells #[.int .u8 98, .int .u8 10, .int .u8 97, .int .u8 10] 5 (4, 5))) fun e w' => e = .returned (.string ⟨#[97, 10, 98, 10]⟩) ∧ Ext (W.alloc (.cells #[.int .u8 98, .int .u8 10, .int .u8 97, .int .u8 10] 5 (4, 5))) w' from by
    have h := kmean mean_sort [98, 10, 97, 10] (W.alloc (.cells #[.int .u8 98, .int .u8 10, .int .u8 97, .int .u8 10] 5 (4, 5))) none 0 0 _ (some ⟨W.heap.size, 0, none⟩) 4 4 _ (HLL.out.ext (HX4.out.trans (HX0.out.trans (hx.alloc _)))) Reads.none_ (Nat.le_refl _) (Nat.le_refl _) (four_bytes W) (Nat.le_refl _) (by omega) (by omega) (fun e => by cases e)
    rw [ba_law] at h
    exact h)
  have HCI := hide (fun (W : World) (hx : Ext W0 W) => HCV.out W (HX0.out.trans hx))
  have hsz : (#[Value.int .u8 98, .int .u8 10, .int .u8 97, .int .u8 10] : Array Value).size = 4 := rfl
  rw [hsz] at hkc
  clear hru hrt hmu hmt hsz HRU HRT HUL HTL HUN HLN HTAC HSRT HM1 HM2 HCV HK hIm2
  go_upto_region 6 with fail
  rw [← opSa_eq, ← opSb_eq, ← opSe_eq]
  have hOa := opSa_eq
  have hOb := opSb_eq
  have hOe := opSe_eq
  generalize str U = US at *
  generalize str T = TS at *
  generalize str I = S at *
  go_region_held3 (fun w' => (convert 22 9 (.slice A4 m c4)).run Tryz.prog w' = .ok (.string S) w')
    (first | (exact HCI.out _ (by ((repeat (first | with_reducible exact Ext.refl _ | with_reducible assumption | with_reducible refine Ext.alloc ?_ _ | with_reducible refine Ext.drew ?_ | with_reducible refine Ext.drewN ?_ _ | with_reducible refine Ext.setCell ?_ (by first | exact Nat.le_refl _ | assumption | (simp; done) | omega) _ | with_reducible refine Ext.trans ?_ (bytesWorld_ext _ _ _) | with_reducible refine Ext.trans ?_ (by with_reducible assumption))); done))) | fail)
    (first
      | (go_at_call 17; (with_reducible refine (HIS.out _ (by ((repeat (first | with_reducible exact Ext.refl _ | with_reducible assumption | with_reducible refine Ext.alloc ?_ _ | with_reducible refine Ext.drew ?_ | with_reducible refine Ext.drewN ?_ _ | with_reducible refine Ext.setCell ?_ (by first | exact Nat.le_refl _ | assumption | (simp; done) | omega) _ | with_reducible refine Ext.trans ?_ (bytesWorld_ext _ _ _) | with_reducible refine Ext.trans ?_ (by with_reducible assumption))); done))).mono ?_); rintro e w5 ⟨rfl, hx5⟩)
      | (go_at_call 18; (with_reducible refine (HEQ.out _ (by ((repeat (first | with_reducible exact Ext.refl _ | with_reducible assumption | with_reducible refine Ext.alloc ?_ _ | with_reducible refine Ext.drew ?_ | with_reducible refine Ext.drewN ?_ _ | with_reducible refine Ext.setCell ?_ (by first | exact Nat.le_refl _ | assumption | (simp; done) | omega) _ | with_reducible refine Ext.trans ?_ (bytesWorld_ext _ _ _) | with_reducible refine Ext.trans ?_ (by with_reducible assumption))); done))).mono ?_); rintro e w6 ⟨rfl, hx6⟩)
      | (go_at_call_of 12 (Value.string ⟨#[115, 111, 114, 116]⟩); (with_reducible refine (HN4.out w9 (by ((repeat (first | with_reducible exact Ext.refl _ | with_reducible assumption | with_reducible refine Ext.alloc ?_ _ | with_reducible refine Ext.drew ?_ | with_reducible refine Ext.drewN ?_ _ | with_reducible refine Ext.setCell ?_ (by first | exact Nat.le_refl _ | assumption | (simp; done) | omega) _ | with_reducible refine Ext.trans ?_ (bytesWorld_ext _ _ _) | with_reducible refine Ext.trans ?_ (by with_reducible assumption))); done))).mono ?_); rintro e w10 ⟨rfl, hx10⟩)
      | (go_at_call_of 12 (Value.string ⟨#[115, 111, 114, 116]⟩); (with_reducible refine (HN1.out w6 (by ((repeat (first | with_reducible exact Ext.refl _ | with_reducible assumption | with_reducible refine Ext.alloc ?_ _ | with_reducible refine Ext.drew ?_ | with_reducible refine Ext.drewN ?_ _ | with_reducible refine Ext.setCell ?_ (by first | exact Nat.le_refl _ | assumption | (simp; done) | omega) _ | with_reducible refine Ext.trans ?_ (bytesWorld_ext _ _ _) | with_reducible refine Ext.trans ?_ (by with_reducible assumption))); done))).mono ?_); rintro e w7 ⟨rfl, hx7⟩)
      | (go_at_call_of 12 (Value.string ⟨#[116, 97, 99]⟩); (with_reducible refine (HN3.out w8 (by ((repeat (first | with_reducible exact Ext.refl _ | with_reducible assumption | with_reducible refine Ext.alloc ?_ _ | with_reducible refine Ext.drew ?_ | with_reducible refine Ext.drewN ?_ _ | with_reducible refine Ext.setCell ?_ (by first | exact Nat.le_refl _ | assumption | (simp; done) | omega) _ | with_reducible refine Ext.trans ?_ (bytesWorld_ext _ _ _) | with_reducible refine Ext.trans ?_ (by with_reducible assumption))); done))).mono ?_); rintro e w9 ⟨rfl, hx9⟩)
      | (go_at_call_of 12 (Value.string ⟨#[116, 97, 99]⟩); (with_reducible refine (HN2.out w7 (by ((repeat (first | with_reducible exact Ext.refl _ | with_reducible assumption | with_reducible refine Ext.alloc ?_ _ | with_reducible refine Ext.drew ?_ | with_reducible refine Ext.drewN ?_ _ | with_reducible refine Ext.setCell ?_ (by first | exact Nat.le_refl _ | assumption | (simp; done) | omega) _ | with_reducible refine Ext.trans ?_ (bytesWorld_ext _ _ _) | with_reducible refine Ext.trans ?_ (by with_reducible assumption))); done))).mono ?_); rintro e w8 ⟨rfl, hx8⟩)
      | fail)
  all_goals
    go_wp2_with fail
    go_ret
    exact ⟨rfl, (HX4.out.trans HX0.out).trans (by ((repeat (first | with_reducible exact Ext.refl _ | with_reducible assumption | with_reducible refine Ext.alloc ?_ _ | with_reducible refine Ext.drew ?_ | with_reducible refine Ext.drewN ?_ _ | with_reducible refine Ext.setCell ?_ (by first | exact Nat.le_refl _ | assumption | (simp; done) | omega) _ | with_reducible refine Ext.trans ?_ (bytesWorld_ext _ _ _) | with_reducible refine Ext.trans ?_ (by with_reducible assumption))); done))⟩
end Go.Proofs.YtjmonkacijncbaaGreatDoor
