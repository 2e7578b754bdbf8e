/- The walk of ToolsParts. -/
import Derived.Test.YtjmonkacijncbaaGreatDoorTlKmean
import Derived.Test.YtjmonkacijncbaaGreatDoorRest
import Derived.Test.YtjmonkacijncbaaGreatDoorCut
import Derived.Test.YtjmonkacijncbaaGreatDoorBytesK
import Derived.Deep.RegionHeld3
namespace Go.Proofs.YtjmonkacijncbaaGreatDoor
open Go.RowKit
set_option linter.unusedVariables false

theorem own_cap {w : World} {base size n c : Nat} {e : TypeId} {A : Option Addr} {xs : List Value} (h : w.ownsRow base e size (.slice A n c) n xs) : A = none → c = 0 := fun e => by
  obtain ⟨A', c', hv, _, _, hn⟩ := own_form h
  injection hv with h1 _ h2
  rw [h2]
  exact (hn (h1 ▸ e)).2
theorem count_lib (l : Bs) (w : World) : Calls Tryz.prog 10 #[.string (str l), .string ⟨#[10]⟩] w fun e w' => e = .returned (.int .i64 ((l.count 10 : Nat) : Int)) ∧ w = w' := by
  have := Tryz.strings_Count_one (str l) 10 w
  rw [str_list] at this
  exact this.mono fun e w' ⟨h1, h2⟩ => ⟨h1, h2.symm⟩
/-- What ringkeep4 makes of the bytes that came in: some of them, and an end of line. -/
def inP (b : Bs) : Bs := b.take 300 ++ [10]
theorem inP_len (b : Bs) : (inP b).length ≤ 301 := by
  unfold inP
  rw [List.length_append, List.length_take]
  have : ([10] : Bs).length = 1 := rfl
  omega
theorem take_bytes {w : World} {B n : Nat} {A : Option Addr} {b : Bs} (h : Reads w B 1 A n (bytesV b)) (k : Nat) : Reads w B 1 A (min n k) (bytesV (b.take k)) := by
  have h1 := h.take (Nat.min_le_left n k)
  have hl := bytes_len h
  have e : (bytesV b).take (min n k) = bytesV (b.take k) := by
    unfold bytesV
    rw [← List.map_take]
    congr 1
    rcases Nat.le_total n k with h2 | h2
    · rw [Nat.min_eq_left h2, List.take_of_length_le (by omega), List.take_of_length_le (by omega)]
    · rw [Nat.min_eq_right h2]
  rw [e] at h1
  exact h1
theorem one_str (w : World) (s : Bs) : Reads (w.alloc (.cells #[.string (str s)] 9)) (w.alloc (.cells #[.string (str s)] 9)).heap.size 1 (some ⟨w.heap.size, 0, none⟩) 1 (strsV [s]) := (Blk.new w 9 #[.string (str s)]).reads
theorem parts_law (b : Bs) (k : Nat) (hk : k ≤ (inP b).count 10) : textP ((linesP (inP b)).take k) ++ textP (tailL ((inP b).count 10 - k) (linesP (inP b))) = inP b := by
  unfold inP at *
  rw [lines_snoc, ← text_app]
  unfold tailL
  have h1 : (cutNl (b.take 300)).length = (b.take 300 ++ [10]).count 10 := by rw [cut_len, List.count_append]; rfl
  generalize (b.take 300 ++ [10]).count 10 = q at *
  rw [h1, Nat.min_eq_left (Nat.sub_le _ _), Nat.sub_sub_self hk, List.take_append_drop, cut_text]
set_option maxHeartbeats 8000000 in
set_option maxRecDepth 100000 in
theorem parts_walk (b : Bs) (A : Option Addr) (n c : Nat) (z : Int) (w : World) (hr : Reads w w.heap.size 1 A n (bytesV b)) (hnc : n ≤ c) (hc : c ≤ maxLen) (hz : -9223372036854775808 ≤ z ∧ z ≤ 9223372036854775807) (hL : LibOk w) :
    Calls Tryz.prog 3 #[.slice A n c, .int .i64 z] w fun e w' => e = .returned (.bool true) ∧ Ext w w' := by
  obtain ⟨i0, hi0, hz0, hz1, hz2⟩ := info_parts byte_info
  have HCUT := hide (cut_any A n c 300 w hnc hc (by decide))
  have HCL := hide (bclone_any A (min n 300) c w.heap.size (bytesV (b.take 300)) w (take_bytes hr 300) (bytesV_one _) (Nat.le_refl _) (by omega) (fun e => by have := some_of hr e; omega))
  have HLL := hide hL
  have HIN := hide (inP_len b)
  have HLAW := hide (parts_law b)
  have HINP := hide (show inP b = b.take 300 ++ [10] from rfl)
  have hl300 : (b.take 300).length = min n 300 := by rw [List.length_take, bytes_len hr]; omega
  have HL3 := hide hl300
  clear hr hL hl300
  generalize b.take 300 = b3 at *
  generalize inP b = I at *
  generalize hm3 : min n 300 = m3 at *
  have hm3' : m3 ≤ 300 := by omega
  clear hm3
  go_enter Tryz.func3, Tryz.ntmps3
  go_wp2_with fail
  refine HCUT.out.mono ?_
  rintro e w0 ⟨rfl, rfl⟩
  go_wp2_with fail
  refine HCL.out.mono ?_
  rintro e w1 ⟨A1, c1, rfl, ho1, hx1⟩
  have HO1 := hide ho1
  have HX1 := hide hx1
  clear ho1 hx1
  go_upto_region 2 with (at_builtin; refine wpList_append_any _ rfl (.tmp 8) (.tmp 9) 22 rfl w.heap.size 5 i0 _ 1 1 Tryz.underlying22 hi0 hz0 hz1 hz2 rfl (by omega) _ m3 (bytesV b3) rfl (HO1.out.alloc _) _ _ 1 1 [.int .u8 10] rfl (Blk.new w1 5 #[.int .u8 10]).reads (by simp [Value.oneCell']) (by simp only [maxLen]; omega) (by omega) (Nat.le_trans HX1.out.size (by simp)) ?_; intro A4 c4 w4 ho4 hg4 ha4)
  obtain ⟨m, hm⟩ : ∃ m, m3 + 1 = m := ⟨_, rfl⟩
  have ho5 : w4.ownsRow w.heap.size 5 1 (.slice A4 m c4) m (bytesV I) := by
    rw [HINP.out, bytesV_append, ← hm]
    exact ho4
  have HO5 := hide ho5
  have HX4 := hide ((HX1.out.alloc _).grown hg4 (fun j hj => (HO1.out.lt j hj).1))
  rw [hm]
  have hm301 : m ≤ 301 := by omega
  clear ho4 hg4 ha4 hm ho5 HINP HIN HO1 HX1 HCUT HCL HL3
  have HCV := hide (fun (W : World) (hx : Ext w4 W) => conv_str' (P := Tryz.prog) (w := W) Tryz.underlying22 Tryz.underlying5 Tryz.underlying9 (Reads.of_own (hx.own HO5.out)) c4)
  have hcv := HCV.out w4 (Ext.refl _)
  have hcn := count_lib I w4
  have hIm : I.length = m := by have := HO5.out.1; rw [bytesV_length] at this; omega
  have hq0 : I.count 10 ≤ 301 := Nat.le_trans List.count_le_length (by omega)
  obtain ⟨q, hq⟩ : ∃ q, I.count 10 = q := ⟨_, rfl⟩
  rw [hq] at hcn HLAW hq0
  have HQ := hide hq
  have HCN := hide hcn
  have HIM := hide hIm
  clear hq hcn hIm
  go_wp2_with fail
  refine HCN.out.mono ?_
  rintro e w5 ⟨rfl, rfl⟩
  clear hcv HCN
  obtain ⟨k, hk⟩ : ∃ k : Nat, restZ z ((q : Int) + 1) = (k : Int) := ⟨(restZ z ((q : Int) + 1)).toNat, by have := restZ_lo z ((q : Int) + 1) (by omega); omega⟩
  have hkq : k ≤ q := by have := restZ_hi z ((q : Int) + 1) (by omega); omega
  have hrs := rest_any z ((q : Int) + 1) w4 hz.1 hz.2 (by omega) (by omega)
  rw [hk] at hrs
  have HRS := hide hrs
  clear hrs hk hz
  go_wp2_with fail
  refine HRS.out.mono ?_
  rintro e w6 ⟨rfl, rfl⟩
  have hlaw := HLAW.out k hkq
  obtain ⟨r, hr⟩ : ∃ r, q - k = r := ⟨_, rfl⟩
  rw [hr] at hlaw
  have hrk : IntKind.i64.wrap ((q : Int) - (k : Int)) = (r : Int) := by rw [IntKind.wrap_i64]; omega
  have hr999 : r ≤ 301 := by omega
  have HS := hide hlaw
  clear hr hlaw HLAW HRS
  have HM1 := hide (fun (W : World) (g : Nat) (hx : Ext w4 W) (hra : Reads W W.heap.size 1 (some ⟨g, 0, none⟩) 1 (strsV [Lib.itoa (k : Int)])) =>
    show Calls Tryz.prog 12 #[.string ⟨#[104, 101, 97, 100]⟩, .slice A4 m c4, .slice (some ⟨g, 0, none⟩) 1 1] W fun e w' => e = .returned (.string (str (textP ((linesP I).take k)))) ∧ Ext W w' from
    kmean (mean_head k (by omega)) I W (some ⟨g, 0, none⟩) 1 1 W.heap.size A4 m c4 W.heap.size (HLL.out.ext (HX4.out.trans hx)) hra (Nat.le_refl _) (Nat.le_refl _) (Reads.of_own (hx.own HO5.out)) (Nat.le_refl _) (own_le HO5.out).1 (by omega) (own_cap HO5.out))
  have HM2 := hide (fun (W : World) (g : Nat) (hx : Ext w4 W) (hra : Reads W W.heap.size 1 (some ⟨g, 0, none⟩) 1 (strsV [Lib.itoa (r : Int)])) =>
    show Calls Tryz.prog 12 #[.string ⟨#[116, 97, 105, 108]⟩, .slice A4 m c4, .slice (some ⟨g, 0, none⟩) 1 1] W fun e w' => e = .returned (.string (str (textP (tailL r (linesP I))))) ∧ Ext W w' from
    kmean (mean_tail r (by omega)) I W (some ⟨g, 0, none⟩) 1 1 W.heap.size A4 m c4 W.heap.size (HLL.out.ext (HX4.out.trans hx)) hra (Nat.le_refl _) (Nat.le_refl _) (Reads.of_own (hx.own HO5.out)) (Nat.le_refl _) (own_le HO5.out).1 (by omega) (own_cap HO5.out))
  have HM3 := hide (fun (W : World) (hx : Ext w4 W) =>
    show Calls Tryz.prog 12 #[.string ⟨#[99, 97, 116]⟩, .slice A4 m c4, .slice none 0 0] W fun e w' => e = .returned (.string (str I)) ∧ Ext W w' from
    kmean mean_cat I W none 0 0 W.heap.size A4 m c4 W.heap.size (HLL.out.ext (HX4.out.trans hx)) Reads.none_ (Nat.le_refl _) (Nat.le_refl _) (Reads.of_own (hx.own HO5.out)) (Nat.le_refl _) (own_le HO5.out).1 (by omega) (own_cap HO5.out))
  have HD1 := hide (fun W => decimal_nat k (by omega) W)
  have HD2 := hide (fun W => decimal_nat r (by omega) W)
  have HSS := hide (show (str (textP ((linesP I).take k))).size + (str (textP (tailL r (linesP I)))).size ≤ 301 from by
    have h1 := congrArg List.length HS.out
    have h2 := HIM.out
    rw [List.length_append] at h1
    rw [str_size, str_size]
    omega)
  have hs : str (textP ((linesP I).take k)) ++ str (textP (tailL r (linesP I))) = str I := by rw [str_append, HS.out]
  generalize str (textP ((linesP I).take k)) = S1 at *
  generalize str (textP (tailL r (linesP I))) = S2 at *
  generalize str I = S at *
  have z1 : S1.size ≤ 301 := by have := HSS.out; omega
  have z2 : S2.size ≤ 301 := by have := HSS.out; omega
  have z3 : ¬ 9223372036854775807 < S1.size + S2.size := by omega
  have HN1 := hide (fun (W : World) (hx : Ext w4 W) => HM1.out _ W.heap.size (hx.alloc (.cells #[.string (str (Lib.itoa (k : Int)))] 9)) (one_str W _))
  have HN2 := hide (fun (W : World) (hx : Ext w4 W) => HM2.out _ W.heap.size (hx.alloc (.cells #[.string (str (Lib.itoa (r : Int)))] 9)) (one_str W _))
  clear HM1 HM2 HS HQ HSS HIM
  go_upto_region 4 with fail
  go_region_held3 (fun w' => (convert 22 9 (.slice A4 m c4)).run Tryz.prog w' = .ok (.string S) w')
    (first | (exact HCV.out _ (by ((repeat (first | with_reducible exact Ext.refl _ | with_reducible assumption | with_reducible refine Ext.alloc ?_ _ | with_reducible refine Ext.drew ?_ | with_reducible refine Ext.drewN ?_ _ | with_reducible refine Ext.setCell ?_ (by first | exact Nat.le_refl _ | assumption | (simp; done) | omega) _ | with_reducible refine Ext.trans ?_ (by with_reducible assumption))); done))) | fail)
    (first
      | (go_at_call_of 13 (Value.int .i64 (k : Int)); refine (HD1.out _).mono ?_; rintro e w7 ⟨rfl, hx7⟩)
      | (go_at_call_of 13 (Value.int .i64 (r : Int)); refine (HD2.out _).mono ?_; rintro e w9 ⟨rfl, hx9⟩)
      | (go_at_call_of 12 (Value.string ⟨#[104, 101, 97, 100]⟩); (with_reducible refine (HN1.out w7 (by ((repeat (first | with_reducible exact Ext.refl _ | with_reducible assumption | with_reducible refine Ext.alloc ?_ _ | with_reducible refine Ext.drew ?_ | with_reducible refine Ext.drewN ?_ _ | with_reducible refine Ext.setCell ?_ (by first | exact Nat.le_refl _ | assumption | (simp; done) | omega) _ | with_reducible refine Ext.trans ?_ (by with_reducible assumption))); done))).mono ?_); rintro e w8 ⟨rfl, hx8⟩)
      | (go_at_call_of 12 (Value.string ⟨#[116, 97, 105, 108]⟩); (with_reducible refine (HN2.out w9 (by ((repeat (first | with_reducible exact Ext.refl _ | with_reducible assumption | with_reducible refine Ext.alloc ?_ _ | with_reducible refine Ext.drew ?_ | with_reducible refine Ext.drewN ?_ _ | with_reducible refine Ext.setCell ?_ (by first | exact Nat.le_refl _ | assumption | (simp; done) | omega) _ | with_reducible refine Ext.trans ?_ (by with_reducible assumption))); done))).mono ?_); rintro e w10 ⟨rfl, hx10⟩)
      | (go_at_call_of 12 (Value.string ⟨#[99, 97, 116]⟩); (with_reducible refine (HM3.out _ (by ((repeat (first | with_reducible exact Ext.refl _ | with_reducible assumption | with_reducible refine Ext.alloc ?_ _ | with_reducible refine Ext.drew ?_ | with_reducible refine Ext.drewN ?_ _ | with_reducible refine Ext.setCell ?_ (by first | exact Nat.le_refl _ | assumption | (simp; done) | omega) _ | with_reducible refine Ext.trans ?_ (by with_reducible assumption))); done))).mono ?_); rintro e w11 ⟨rfl, hx11⟩)
      | fail)
  go_wp2_with fail
  go_ret
  exact ⟨rfl, HX4.out.trans (by ((repeat (first | with_reducible exact Ext.refl _ | with_reducible assumption | with_reducible refine Ext.alloc ?_ _ | with_reducible refine Ext.drew ?_ | with_reducible refine Ext.drewN ?_ _ | with_reducible refine Ext.setCell ?_ (by first | exact Nat.le_refl _ | assumption | (simp; done) | omega) _ | with_reducible refine Ext.trans ?_ (by with_reducible assumption))); done))⟩
end Go.Proofs.YtjmonkacijncbaaGreatDoor
