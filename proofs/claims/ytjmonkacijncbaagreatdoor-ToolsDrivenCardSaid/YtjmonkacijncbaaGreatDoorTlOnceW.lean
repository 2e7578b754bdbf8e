/- The walk of ToolsOnce. -/
import Derived.Test.YtjmonkacijncbaaGreatDoorTlOnceP
import Derived.Test.YtjmonkacijncbaaGreatDoorTlMeanTr
import Derived.Test.YtjmonkacijncbaaGreatDoorTlPartsW
namespace Go.Proofs.YtjmonkacijncbaaGreatDoor
open Go.RowKit
set_option linter.unusedVariables false

def opCc : Op := .convert 9 22 (.tmp 21)
def opCd : Op := .convert 9 22 (.tmp 27)
def opCe : Op := .convert 22 22 (.tmp 45)
theorem opCc_eq : opCc = .convert 9 22 (.tmp 21) := rfl
theorem opCd_eq : opCd = .convert 9 22 (.tmp 27) := rfl
theorem opCe_eq : opCe = .convert 22 22 (.tmp 45) := rfl
theorem two_str (w : World) (s t : ByteArray) (a b : Bs) (ha : s = str a) (hb : t = str b) : Reads (w.alloc (.cells #[.string s, .string t] 9)) (w.alloc (.cells #[.string s, .string t] 9)).heap.size 1 (some ⟨w.heap.size, 0, none⟩) 2 (strsV [a, b]) := by
  subst ha hb
  exact (Blk.new w 9 #[.string (str a), .string (str b)]).reads
theorem five_bytes (W : World) : Reads (W.alloc (.cells #[.int .u8 97, .int .u8 10, .int .u8 97, .int .u8 10, .int .u8 98] 5 (5, 6))) (W.alloc (.cells #[.int .u8 97, .int .u8 10, .int .u8 97, .int .u8 10, .int .u8 98] 5 (5, 6))).heap.size 1 (some ⟨W.heap.size, 0, none⟩) 5 (bytesV [97, 10, 97, 10, 98]) := by
  refine ⟨rfl, fun _ => ⟨_, rfl, by simp, fun j u hu => ?_⟩⟩
  rw [add_lit, Nat.zero_add, cell_of_row _ W.heap.size j _ _ _ (heap_alloc_new W _)]
  simpa [bytesV] using hu
theorem byte_wrap (z : Int) (h0 : 0 ≤ z) (h1 : z < 26) : ∃ x : UInt8, IntKind.u8.wrap (97 + z) = (x.toNat : Int) ∧ 97 + z = (x.toNat : Int) := by
  refine ⟨UInt8.ofNat (97 + z.toNat), ?_, ?_⟩
  · rw [IntKind.wrap_u8]
    simp only [UInt8.toNat_ofNat']
    omega
  · simp only [UInt8.toNat_ofNat']
    omega
set_option maxHeartbeats 8000000 in
set_option maxRecDepth 100000 in
theorem once_walk (b : Bs) (A : Option Addr) (n c : Nat) (z : Int) (w : World) (hr : Reads w w.heap.size 1 A n (bytesV b)) (hnc : n ≤ c) (hc : c ≤ maxLen) (hA : A = none → c = 0) (hz : -9223372036854775808 ≤ z ∧ z ≤ 9223372036854775807) (hL : LibOk w) :
    Calls Tryz.prog 4 #[.slice A n c, .int .i64 z] w fun e w' => e = .returned (.bool true) ∧ Ext w w' := by
  have HCUT := hide (cut_any A n c 300 w hnc hc (by decide))
  have hrt := take_bytes hr 300
  have HLL := hide hL
  generalize b.take 300 = I at *
  obtain ⟨m, hm⟩ : ∃ m, min n 300 = m := ⟨_, rfl⟩
  have hm3 : m ≤ 300 := by omega
  have hmc : m ≤ c := by omega
  rw [hm] at hrt HCUT
  have HR := hide hrt
  have HA := hide hA
  clear hr hL hrt hm hA
  have HM1 := hide (fun (W : World) (hx : Ext w W) =>
    show Calls Tryz.prog 12 #[.string ⟨#[117, 110, 105, 113]⟩, .slice A m c, .slice none 0 0] W fun e w' => e = .returned (.string (str (textP (Lib.compact (linesP I))))) ∧ Ext W w' from
    kmean mean_uniq I W none 0 0 W.heap.size A m c w.heap.size (HLL.out.ext hx) Reads.none_ (Nat.le_refl _) (Nat.le_refl _) (hx.reads HR.out (Nat.le_refl _)) hx.size hmc (by omega) HA.out)
  have HM2 := hide (fun (W : World) (hx : Ext w W) =>
    show Calls Tryz.prog 12 #[.string ⟨#[103, 114, 101, 112]⟩, .slice A m c, .slice (some ⟨W.heap.size, 0, none⟩) 1 1] (W.alloc (.cells #[.string ⟨#[120]⟩] 9)) fun e w' => e = .returned (.string (str (textP ((linesP I).filter fun s => Lib.contains s [120])))) ∧ Ext (W.alloc (.cells #[.string ⟨#[120]⟩] 9)) w' from
    kmean (mean_grep [120] (by decide)) I _ (some ⟨W.heap.size, 0, none⟩) 1 1 _ A m c w.heap.size (HLL.out.ext (hx.alloc _)) (one_str W [120]) (Nat.le_refl _) (Nat.le_refl _) ((hx.alloc _).reads HR.out (Nat.le_refl _)) (hx.alloc _).size hmc (by omega) HA.out)
  have HI := hide (bytes_len HR.out)
  obtain ⟨u, hu⟩ : ∃ u, textP (Lib.compact (linesP I)) = u := ⟨_, rfl⟩
  obtain ⟨g, hg⟩ : ∃ g, textP ((linesP I).filter fun s => Lib.contains s [120]) = g := ⟨_, rfl⟩
  rw [hu] at HM1
  rw [hg] at HM2
  have HU := hide hu
  have HG := hide hg
  clear hu hg
  go_enter Tryz.func4, Tryz.ntmps4
  go_wp2_with fail
  refine HCUT.out.mono ?_
  rintro e w0 ⟨rfl, rfl⟩
  go_wp2_with fail
  refine (HM1.out w (Ext.refl _)).mono ?_
  rintro e w1 ⟨rfl, hx1⟩
  have HX1 := hide hx1
  clear hx1
  go_wp2_with fail
  refine (HM2.out w1 HX1.out).mono ?_
  rintro e w2 ⟨rfl, hx2⟩
  have HX2 := hide ((HX1.out.alloc _).trans hx2)
  clear hx2
  obtain ⟨r, hrz⟩ : ∃ r, restZ z 26 = r := ⟨_, rfl⟩
  have hr0 : 0 ≤ r := by rw [← hrz]; exact restZ_lo z 26 (by omega)
  have hr1 : r < 26 := by rw [← hrz]; exact restZ_hi z 26 (by omega)
  have hrs := rest_any z 26 w2 hz.1 hz.2 (by omega) (by omega)
  rw [hrz] at hrs
  have HRS := hide hrs
  clear hrs hrz hz
  obtain ⟨x, hx1, hx2⟩ := byte_wrap r hr0 hr1
  have hxb : Reads (w2.alloc (.cells #[.int .u8 (x.toNat : Int)] 5)) (w2.alloc (.cells #[.int .u8 (x.toNat : Int)] 5)).heap.size 1 (some ⟨w2.heap.size, 0, none⟩) 1 (bytesV [x]) := (Blk.new w2 5 #[.int .u8 (x.toNat : Int)]).reads
  have hcv := conv_str' (P := Tryz.prog) Tryz.underlying22 Tryz.underlying5 Tryz.underlying9 hxb 1
  have hx3 : IntKind.u8.wrap (x.toNat : Int) = (x.toNat : Int) := by rw [← hx2]; rw [hx1]; exact hx2.symm
  go_wp2_with fail
  refine HRS.out.mono ?_
  rintro e w3 ⟨rfl, rfl⟩
  go_upto_region 4 with fail
  clear hcv hxb hx1 hx2 hx3
  obtain ⟨W0, hW0⟩ : ∃ W, W = w2.alloc (.cells #[.int .u8 (x.toNat : Int)] 5) := ⟨_, rfl⟩
  rw [← hW0]
  have HX0 := hide (show Ext w W0 from by rw [hW0]; exact HX2.out.alloc _)
  clear hW0 HX2 HRS HM1 HM2 HX1
  have huL : u.length ≤ 400 := by
    rw [← HU.out]
    have h1 := text_sub (compact_sub (linesP I))
    have h2 := lines_text_len I
    have h3 := HI.out
    omega
  have hgL : g.length ≤ 400 := by
    rw [← HG.out]
    have h1 : (textP ((linesP I).filter fun s => Lib.contains s [120])).length ≤ (textP (linesP I)).length := text_sub List.filter_sublist
    have h2 := lines_text_len I
    have h3 := HI.out
    omega
  obtain ⟨mu, hmu⟩ : ∃ mu, u.length = mu := ⟨_, rfl⟩
  obtain ⟨mg, hmg⟩ : ∃ mg, g.length = mg := ⟨_, rfl⟩
  have hcu := conv_run u
  have hcg := conv_run g
  have hru := conv_reads u
  have hrg := conv_reads g
  rw [hmu] at hcu hru huL
  rw [hmg] at hcg hrg hgL
  have HRU := hide hru
  have HRG := hide hrg
  have HCI := hide (fun (W : World) (hx : Ext w W) => conv_str' (P := Tryz.prog) (w := W) Tryz.underlying22 Tryz.underlying5 Tryz.underlying9 (hx.reads HR.out (Nat.le_refl _)) c)
  have HN1 := hide (fun (W : World) (hx : Ext w W) =>
    show Calls Tryz.prog 12 #[.string ⟨#[117, 110, 105, 113]⟩, .slice (some ⟨W.heap.size, 0, none⟩) mu (grownCap W mu 0 5), .slice none 0 0] (Lib.bytesWorld W 5 (str u)) fun e w' => e = .returned (.string (str u)) ∧ Ext (Lib.bytesWorld W 5 (str u)) w' from by
    have h := kmean mean_uniq u (Lib.bytesWorld W 5 (str u)) none 0 0 _ (some ⟨W.heap.size, 0, none⟩) mu (grownCap W mu 0 5) _ (HLL.out.ext (hx.trans (bytesWorld_ext _ _ _))) Reads.none_ (Nat.le_refl _) (Nat.le_refl _) (HRU.out W) (Nat.le_refl _) (grownCap_ge _ _ _ _) (by omega) (fun e => by cases e)
    have e1 : textP (Lib.compact (linesP u)) = u := by rw [← HU.out]; exact uniq_law I
    rw [e1] at h
    exact h)
  have HN3 := hide (fun (W : World) (hx : Ext w W) =>
    show Calls Tryz.prog 12 #[.string ⟨#[116, 114]⟩, .slice A m c, .slice (some ⟨W.heap.size, 0, none⟩) 2 2] (W.alloc (.cells #[.string (str [x]), .string (str [x])] 9)) fun e w' => e = .returned (.string (str I)) ∧ Ext (W.alloc (.cells #[.string (str [x]), .string (str [x])] 9)) w' from by
    have h := kmean (mean_tr x x) I _ (some ⟨W.heap.size, 0, none⟩) 2 2 _ A m c w.heap.size (HLL.out.ext (hx.alloc _)) (two_str W (str [x]) (str [x]) [x] [x] rfl rfl) (Nat.le_refl _) (Nat.le_refl _) ((hx.alloc _).reads HR.out (Nat.le_refl _)) (hx.alloc _).size hmc (by omega) HA.out
    rw [replB_same] at h
    exact h)
  have hgg : textP ((linesP g).filter fun s => Lib.contains s [120]) = g := by rw [← HG.out]; exact grep_law [120] I
  have HN2A := hide (fun (W : World) (hx : Ext w W) =>
    show Calls Tryz.prog 12 #[.string ⟨#[103, 114, 101, 112]⟩, .slice (some ⟨W.heap.size, 0, none⟩) mg (grownCap W mg 0 5), .slice (some ⟨(Lib.bytesWorld W 5 (str g)).heap.size, 0, none⟩) 1 1] ((Lib.bytesWorld W 5 (str g)).alloc (.cells #[.string ⟨#[120]⟩] 9)) fun e w' => e = .returned (.string (str g)) ∧ Ext ((Lib.bytesWorld W 5 (str g)).alloc (.cells #[.string ⟨#[120]⟩] 9)) w' from by
    have h := kmean (mean_grep [120] (by decide)) g ((Lib.bytesWorld W 5 (str g)).alloc (.cells #[.string ⟨#[120]⟩] 9)) (some ⟨(Lib.bytesWorld W 5 (str g)).heap.size, 0, none⟩) 1 1 _ (some ⟨W.heap.size, 0, none⟩) mg (grownCap W mg 0 5) _ (HLL.out.ext ((hx.trans (bytesWorld_ext _ _ _)).alloc _)) (one_str _ [120]) (Nat.le_refl _) (Nat.le_refl _) ((HRG.out W).alloc (Nat.le_refl _) _) (by simp) (grownCap_ge _ _ _ _) (by omega) (fun e => by cases e)
    rw [hgg] at h
    exact h)
  have HN2B := hide (fun (W : World) (hx : Ext w W) =>
    show Calls Tryz.prog 12 #[.string ⟨#[103, 114, 101, 112]⟩, .slice (some ⟨W.heap.size + 1, 0, none⟩) mg (grownCap (W.alloc (.cells #[.string ⟨#[120]⟩] 9)) mg 0 5), .slice (some ⟨W.heap.size, 0, none⟩) 1 1] (Lib.bytesWorld (W.alloc (.cells #[.string ⟨#[120]⟩] 9)) 5 (str g)) fun e w' => e = .returned (.string (str g)) ∧ Ext (Lib.bytesWorld (W.alloc (.cells #[.string ⟨#[120]⟩] 9)) 5 (str g)) w' from by
    have hrd := HRG.out (W.alloc (.cells #[.string ⟨#[120]⟩] 9))
    rw [show (W.alloc (.cells #[.string ⟨#[120]⟩] 9)).heap.size = W.heap.size + 1 by simp] at hrd
    have h := kmean (mean_grep [120] (by decide)) g (Lib.bytesWorld (W.alloc (.cells #[.string ⟨#[120]⟩] 9)) 5 (str g)) (some ⟨W.heap.size, 0, none⟩) 1 1 _ (some ⟨W.heap.size + 1, 0, none⟩) mg (grownCap (W.alloc (.cells #[.string ⟨#[120]⟩] 9)) mg 0 5) _ (HLL.out.ext ((hx.alloc _).trans (bytesWorld_ext _ _ _))) ((bytesWorld_ext _ _ _).reads (one_str W [120]) (Nat.le_refl _)) (bytesWorld_ext _ _ _).size (Nat.le_refl _) hrd (Nat.le_refl _) (grownCap_ge _ _ _ _) (by omega) (fun e => by cases e)
    rw [hgg] at h
    exact h)
  have hkc := fun (W : World) => Lib.run_convert_bytes_const (P := Tryz.prog) W 22 5 #[.int .u8 97, .int .u8 10, .int .u8 97, .int .u8 10, .int .u8 98] 5 5 Tryz.underlying22 Tryz.underlying5
  have HN4 := hide (fun (W : World) (hx : Ext w W) =>
    show Calls Tryz.prog 12 #[.string ⟨#[117, 110, 105, 113]⟩, .slice (some ⟨W.heap.size, 0, none⟩) 5 5, .slice none 0 0] (W.alloc (.cells #[.int .u8 97, .int .u8 10, .int .u8 97, .int .u8 10, .int .u8 98] 5 (5, 6))) fun e w' => e = .returned (.string ⟨#[97, 10, 98, 10]⟩) ∧ Ext (W.alloc (.cells #[.int .u8 97, .int .u8 10, .int .u8 97, .int .u8 10, .int .u8 98] 5 (5, 6))) w' from by
    have h := kmean mean_uniq [97, 10, 97, 10, 98] (W.alloc (.cells #[.int .u8 97, .int .u8 10, .int .u8 97, .int .u8 10, .int .u8 98] 5 (5, 6))) none 0 0 _ (some ⟨W.heap.size, 0, none⟩) 5 5 _ (HLL.out.ext (hx.alloc _)) Reads.none_ (Nat.le_refl _) (Nat.le_refl _) (five_bytes W) (Nat.le_refl _) (by omega) (by omega) (fun e => by cases e)
    rw [aab_law] at h
    exact h)
  have hsz : (#[Value.int .u8 97, .int .u8 10, .int .u8 97, .int .u8 10, .int .u8 98] : Array Value).size = 5 := rfl
  rw [hsz] at hkc
  clear hru hrg hgg hmu hmg hsz HRU HRG HU HG HI
  rw [← opCc_eq, ← opCd_eq, ← opCe_eq]
  have hOc := opCc_eq
  have hOd := opCd_eq
  have hOe := opCe_eq
  generalize str u = U at *
  generalize str g = G at *
  generalize str I = S at *
  generalize str [x] = X at *
  have HN1d := hide (fun (W : World) (hx : Ext w W) =>
    show Calls Tryz.prog 12 #[.string ⟨#[117, 110, 105, 113]⟩, .slice (some ⟨W.heap.size, 0, none⟩) mu (grownCap W.drew mu 0 5), .slice none 0 0] (Lib.bytesWorld W.drew 5 U) fun e w' => e = .returned (.string U) ∧ Ext (Lib.bytesWorld W.drew 5 U) w' from HN1.out W.drew hx.drew)
  go_region_held3 (fun w' => (convert 22 9 (.slice A m c)).run Tryz.prog w' = .ok (.string S) w')
    (first | (exact HCI.out _ (HX0.out.trans (by ((repeat (first | with_reducible exact Ext.refl _ | with_reducible assumption | with_reducible refine Ext.alloc ?_ _ | with_reducible refine Ext.drew ?_ | with_reducible refine Ext.drewN ?_ _ | with_reducible refine Ext.setCell ?_ (by first | exact Nat.le_refl _ | assumption | (simp; done) | omega) _ | with_reducible refine Ext.trans ?_ (bytesWorld_ext _ _ _) | with_reducible refine Ext.trans ?_ (by with_reducible assumption))); done)))) | fail)
    (first
      | (go_at_call_of 12 (Value.string ⟨#[116, 114]⟩); (with_reducible refine (HN3.out w7 (HX0.out.trans (by ((repeat (first | with_reducible exact Ext.refl _ | with_reducible assumption | with_reducible refine Ext.alloc ?_ _ | with_reducible refine Ext.drew ?_ | with_reducible refine Ext.drewN ?_ _ | with_reducible refine Ext.setCell ?_ (by first | exact Nat.le_refl _ | assumption | (simp; done) | omega) _ | with_reducible refine Ext.trans ?_ (bytesWorld_ext _ _ _) | with_reducible refine Ext.trans ?_ (by with_reducible assumption))); done)))).mono ?_); rintro e w8 ⟨rfl, hx8⟩)
      | (go_at_call_of 12 (Value.string ⟨#[103, 114, 101, 112]⟩); (with_reducible refine (HN2A.out w6 (HX0.out.trans (by ((repeat (first | with_reducible exact Ext.refl _ | with_reducible assumption | with_reducible refine Ext.alloc ?_ _ | with_reducible refine Ext.drew ?_ | with_reducible refine Ext.drewN ?_ _ | with_reducible refine Ext.setCell ?_ (by first | exact Nat.le_refl _ | assumption | (simp; done) | omega) _ | with_reducible refine Ext.trans ?_ (bytesWorld_ext _ _ _) | with_reducible refine Ext.trans ?_ (by with_reducible assumption))); done)))).mono ?_); rintro e w7 ⟨rfl, hx7⟩)
      | (go_at_call_of 12 (Value.string ⟨#[103, 114, 101, 112]⟩); (with_reducible refine (HN2B.out w6 (HX0.out.trans (by ((repeat (first | with_reducible exact Ext.refl _ | with_reducible assumption | with_reducible refine Ext.alloc ?_ _ | with_reducible refine Ext.drew ?_ | with_reducible refine Ext.drewN ?_ _ | with_reducible refine Ext.setCell ?_ (by first | exact Nat.le_refl _ | assumption | (simp; done) | omega) _ | with_reducible refine Ext.trans ?_ (bytesWorld_ext _ _ _) | with_reducible refine Ext.trans ?_ (by with_reducible assumption))); done)))).mono ?_); rintro e w7 ⟨rfl, hx7⟩)
      | (go_at_call_of 12 (Value.string ⟨#[117, 110, 105, 113]⟩); (with_reducible refine (HN1d.out W0 HX0.out).mono ?_); rintro e w6 ⟨rfl, hx6⟩)
      | (go_at_call_of 12 (Value.string ⟨#[117, 110, 105, 113]⟩); (with_reducible refine (HN4.out w8 (HX0.out.trans (by ((repeat (first | with_reducible exact Ext.refl _ | with_reducible assumption | with_reducible refine Ext.alloc ?_ _ | with_reducible refine Ext.drew ?_ | with_reducible refine Ext.drewN ?_ _ | with_reducible refine Ext.setCell ?_ (by first | exact Nat.le_refl _ | assumption | (simp; done) | omega) _ | with_reducible refine Ext.trans ?_ (bytesWorld_ext _ _ _) | with_reducible refine Ext.trans ?_ (by with_reducible assumption))); done)))).mono ?_); rintro e w9 ⟨rfl, hx9⟩)
      | fail)
  all_goals
    go_wp2_with fail
    go_ret
    exact ⟨rfl, HX0.out.trans (by ((repeat (first | with_reducible exact Ext.refl _ | with_reducible assumption | with_reducible refine Ext.alloc ?_ _ | with_reducible refine Ext.drew ?_ | with_reducible refine Ext.drewN ?_ _ | with_reducible refine Ext.setCell ?_ (by first | exact Nat.le_refl _ | assumption | (simp; done) | omega) _ | with_reducible refine Ext.trans ?_ (bytesWorld_ext _ _ _) | with_reducible refine Ext.trans ?_ (by with_reducible assumption))); done))⟩
end Go.Proofs.YtjmonkacijncbaaGreatDoor
