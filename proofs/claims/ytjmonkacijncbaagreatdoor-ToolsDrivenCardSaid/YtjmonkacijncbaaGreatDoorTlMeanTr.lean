/- The contract of tools.Mean at tr. -/
import Derived.Test.YtjmonkacijncbaaGreatDoorTlRep
import Derived.Deep.RegionHeld3
namespace Go.Proofs.YtjmonkacijncbaaGreatDoor
open Go.RowKit
set_option linter.unusedVariables false

set_option maxHeartbeats 2000000 in
set_option maxRecDepth 100000 in
theorem replall_one (x y : UInt8) (b : Bs) (A : Option Addr) (n c B g1 c1 g2 c2 : Nat) (w : World) (hr : Reads w B 1 A n (bytesV b)) (hB : B ≤ w.heap.size) (hnc : n ≤ c) (hn : n ≤ 1000000) (hA : A = none → c = 0)
    (hx : w.cell? ⟨g1, 0, none⟩ = some (.int .u8 (x.toNat : Int))) (hy : Reads w w.heap.size 1 (some ⟨g2, 0, none⟩) 1 (bytesV [y])) (hc1 : 1 ≤ c1) (hc2 : 1 ≤ c2) :
    Calls Tryz.prog 38 #[.slice A n c, .slice (some ⟨g1, 0, none⟩) 1 c1, .slice (some ⟨g2, 0, none⟩) 1 c2] w (BytesOut w (replB x y b)) := by
  have H := hide (replace_one x y b A n c B g1 c1 g2 c2 w hr hB hnc hn hA hx hy hc1 hc2)
  clear hr hA hx hy
  go_enter Tryz.func38, Tryz.ntmps38
  go_wp2_with fail
  refine H.out.mono ?_
  rintro e w1 ⟨A1, m1, c1, rfl, hl, ho, hx⟩
  have HL := hide hl
  have HO := hide ho
  have HX := hide hx
  clear hl ho hx
  go_wp2_with fail
  go_ret
  exact ⟨A1, m1, c1, rfl, HL.out, HO.out, HX.out⟩
def opCa : Op := .convert 9 22 (.tmp 50)
def opCb : Op := .convert 9 22 (.tmp 54)
theorem opCa_eq : opCa = .convert 9 22 (.tmp 50) := rfl
theorem opCb_eq : opCb = .convert 9 22 (.tmp 54) := rfl
theorem conv_one (x : UInt8) (W : World) : (convert 9 22 (.string (str [x]))).run Tryz.prog W = .ok (.slice (some ⟨W.heap.size, 0, none⟩) 1 (grownCap W 1 0 5)) (Lib.bytesWorld W 5 (str [x])) :=
  Lib.run_convert_string_bytes (P := Tryz.prog) W 9 22 5 (str [x]) Tryz.underlying9 Tryz.underlying22 Tryz.underlying5
theorem conv_cell (x : UInt8) (W : World) : (Lib.bytesWorld W 5 (str [x])).cell? ⟨W.heap.size, 0, none⟩ = some (.int .u8 (x.toNat : Int)) := by
  rw [Lib.bytesWorld_cell W _ (str [x]) 0 (by rw [str_size]; simp)]
  simp [str]
theorem reads_oneb {W : World} {g : Nat} {y : UInt8} (h : W.cell? ⟨g, 0, none⟩ = some (.int .u8 (y.toNat : Int))) : Reads W W.heap.size 1 (some ⟨g, 0, none⟩) 1 (bytesV [y]) :=
  ⟨rfl, fun _ => ⟨_, rfl, World.block_lt_of_cell? W ⟨g, 0, none⟩ h, fun j u hu => by
    match j, hu with
    | 0, hu => rw [add_lit]; simp [bytesV] at hu; rw [← hu]; exact h
    | j + 1, hu => simp [bytesV] at hu⟩⟩
set_option maxHeartbeats 4000000 in
set_option maxRecDepth 100000 in
theorem mean_tr (x y : UInt8) : MeanAt [116, 114] [[x], [y]] (fun b => replB x y b) (fun _ => 0) := by
  intro b w A n c B A' m c' B' hL hra hB hnc hrb hB' hmc hm hA'
  have hbm := bytes_len hrb
  have HCK := hide (check_tr x y w A n c B hL hra hB hnc)
  have HLN := hide (fun W (hx : Ext w W) => lines_any b A' m c' B' W (hx.reads hrb hB') (Nat.le_trans hB' hx.size) hbm (by omega) (hL.ext hx))
  have HRB := hide hrb
  have HA' := hide hA'
  have t0 : decide ((m : Int) > 1024) = false := decide_eq_false (by omega)
  have t0' : decide ((1024 : Int) < (m : Int)) = false := decide_eq_false (by omega)
  obtain rfl := args_len hra
  obtain ⟨ba, off, rfl, hba, hcell⟩ := arg_cell hra (by simp)
  have HCELL := hide hcell
  clear hL hra hrb hbm hA' hcell
  show Calls _ _ #[.string ⟨#[116, 114]⟩, .slice (some ⟨ba, off, none⟩) 2 c, .slice A' m c'] w _
  go_enter Tryz.func20, Tryz.ntmps20
  go_wp2_with fail
  refine HCK.out.mono ?_
  rintro e w1 ⟨rfl, hx1⟩
  have HX1 := hide hx1
  clear hx1
  go_wp2_with fail
  refine (HLN.out w1 HX1.out).mono ?_
  rintro e w2 ⟨A2, m2, c2, rfl, hmc2, hl2, hr2, hx2⟩
  have HX2 := hide (HX1.out.trans hx2)
  clear hx2 hr2 hl2
  have q0 : w2.cell? ⟨ba, off, none⟩ = some (.string (str [x])) := HX2.out.cell (HCELL.out 0 _ rfl)
  have q1 : w2.cell? ⟨ba, off + 1, none⟩ = some (.string (str [y])) := HX2.out.cell (HCELL.out 1 _ rfl)
  have hcx := conv_one x
  have hcy := conv_one y
  have HREP := hide (fun (W : World) (hx : Ext w W) (g1 c1 g2 c2 : Nat) (h1 : W.cell? ⟨g1, 0, none⟩ = some (.int .u8 (x.toNat : Int))) (h2 : Reads W W.heap.size 1 (some ⟨g2, 0, none⟩) 1 (bytesV [y])) (hc1 : 1 ≤ c1) (hc2 : 1 ≤ c2) =>
    replall_one x y b A' m c' B' g1 c1 g2 c2 W (hx.reads HRB.out hB') (Nat.le_trans hB' hx.size) hmc (by omega) HA'.out h1 h2 hc1 hc2)
  have HCX := hide (conv_cell x)
  have HCY := hide (conv_cell y)
  generalize str [x] = X at *
  generalize str [y] = Y at *
  have HR1 := hide (HREP.out (Lib.bytesWorld (Lib.bytesWorld w2.drew 5 X) 5 Y) ((HX2.out.drew.trans (bytesWorld_ext _ _ _)).trans (bytesWorld_ext _ _ _)) w2.drew.heap.size (grownCap w2.drew 1 0 5) (Lib.bytesWorld w2.drew 5 X).heap.size (grownCap (Lib.bytesWorld w2.drew 5 X) 1 0 5)
    ((bytesWorld_ext _ _ _).cell (HCX.out w2.drew)) (reads_oneb (HCY.out _)) (grownCap_ge _ _ _ _) (grownCap_ge _ _ _ _))
  have HR2 := hide (HREP.out (Lib.bytesWorld (Lib.bytesWorld w2.drew 5 Y) 5 X) ((HX2.out.drew.trans (bytesWorld_ext _ _ _)).trans (bytesWorld_ext _ _ _)) (Lib.bytesWorld w2.drew 5 Y).heap.size (grownCap (Lib.bytesWorld w2.drew 5 Y) 1 0 5) w2.drew.heap.size (grownCap w2.drew 1 0 5)
    (HCX.out _) (reads_oneb ((bytesWorld_ext _ _ _).cell (HCY.out w2.drew))) (grownCap_ge _ _ _ _) (grownCap_ge _ _ _ _))
  have HE1 := hide (((Ext.refl w2).drew.trans (bytesWorld_ext w2.drew 5 X)).trans (bytesWorld_ext (Lib.bytesWorld w2.drew 5 X) 5 Y))
  have HE2 := hide (((Ext.refl w2).drew.trans (bytesWorld_ext w2.drew 5 Y)).trans (bytesWorld_ext (Lib.bytesWorld w2.drew 5 Y) 5 X))
  have hds : w2.drew.heap.size = w2.heap.size := rfl
  rw [hds] at HR1 HR2
  clear HREP HCX HCY hds
  go_upto_region 15 with fail
  rw [← opCa_eq, ← opCb_eq]
  have hOa := opCa_eq
  have hOb := opCb_eq
  go_region_held3 (fun w' => w'.cell? ⟨ba, off, none⟩ = some (.string X) ∧ w'.cell? ⟨ba, off + 1, none⟩ = some (.string Y))
    (first | (refine ⟨?_, ?_⟩ <;> (refine Ext.cell (w := w2) ?_ (by assumption); first | (exact q5) | (exact Ext.trans (Ext.trans (Ext.refl w2).drew (bytesWorld_ext _ _ _)) (bytesWorld_ext _ _ _)) | (exact Ext.trans (Ext.refl w2).drew (bytesWorld_ext _ _ _)) | ((repeat (first | with_reducible exact Ext.refl _ | with_reducible assumption | with_reducible refine Ext.alloc ?_ _ | with_reducible refine Ext.drew ?_ | with_reducible refine Ext.drewN ?_ _ | with_reducible refine Ext.setCell ?_ (by first | exact Nat.le_refl _ | assumption | (simp; done) | omega) _ | with_reducible refine Ext.trans ?_ (by with_reducible assumption))); done))) | fail)
    (first
      | (go_at_call 38; (with_reducible refine HR1.out.mono ?_); rintro e w5 ⟨A5, m5, c5, rfl, hl5, ho5, hx5⟩; have q5 := HE1.out.trans hx5)
      | (go_at_call 38; (with_reducible refine HR2.out.mono ?_); rintro e w5 ⟨A5, m5, c5, rfl, hl5, ho5, hx5⟩; have q5 := HE2.out.trans hx5)
      | fail)
  all_goals
    have HO5 := hide ho5
    have HX5 := hide (HX2.out.trans q5)
    clear hl5 ho5 hx5 q5 hOa hOb hcx hcy q0 q1
    go_wp2_with fail
    go_ret3
    exact mean_own (own_mono HO5.out (Nat.le_refl _)) HX5.out
end Go.Proofs.YtjmonkacijncbaaGreatDoor
