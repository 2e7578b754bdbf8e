/- The contract of Part.object. -/
import Derived.Test.YtljlniehbenefaaDoorObSt
namespace Go.Proofs.YtljlniehbenefaaDoor
open Go.RowKit
set_option linter.unusedVariables false

theorem cut_hi {P : Program} {t e : TypeId} {i : TypeInfo} (ht : P.underlying t = some (.slice e)) (hi : P.info? e = some i) (hs : i.size = 1) (A : Option Addr) (n c : Nat) (hi' : Int) (j : Nat) (hhi : hi' = j) (hj : j ≤ c) (kh : IntKind) (W : World) :
    (Instr.slice t (.slice A n c) none (some (.int kh hi')) none).run P W = .ok (.slice A j c) W := by
  have he : P.elem t = e := by simp [Program.elem, ht]
  have ht' : P.underlying t = some (.slice (P.elem t)) := by rw [he]; exact ht
  subst hhi
  rw [run_slice_h W t A n c ht' kh (j : Int) (by omega) (by omega), he]
  simp [sizeOf, typeInfo, hi, hs, sliced, Result.andThen, Addr.add]
theorem nm_info : (Tryd.prog.info? 43).map (fun i => (i.zero, i.size, i.bytes)) = some (some (.agg #[.string ⟨#[]⟩, .int .i64 0, .int .i64 0, .bool false]), 4, 40) := by kernel_rfl
theorem ne_info : (Tryd.prog.info? 34).map (fun i => (i.zero, i.size, i.bytes)) = some (some (.agg #[.int .i64 0, .string ⟨#[]⟩, .int .i64 0]), 3, 32) := by kernel_rfl
def ObjCut1 (w W : World) (gr k1 k2 : Nat) (cs : List Nat) (ds : Bs) (s3 : Value) (wx : World) : Prop :=
  ∃ (g3 : Nat) (A1 : Option Addr) (c1 : Nat) (A2 : Option Addr) (c2 : Nat), s3 = .pointer (some ⟨g3, 0, none⟩) ∧ gr < g3 ∧ Blk wx g3 obT #[.slice A1 k1 c1, .slice A2 k2 c2, .slice none 0 0, .slice none 0 0] ∧ wx.ownsRow w.heap.size 31 1 (.slice A1 k1 c1) k1 (codeV cs) ∧ wx.ownsRow w.heap.size 5 1 (.slice A2 k2 c2) k2 (bytesV ds) ∧ Ext W wx
theorem tdiv_bd (n : Int) (h1 : -9223372036854775808 ≤ n) (h2 : n ≤ 9223372036854775807) : -9223372036854775808 ≤ n.tdiv 12 ∧ n.tdiv 12 ≤ 9223372036854775807 := by
  rcases Int.le_total 0 n with h | h
  · rw [Int.tdiv_eq_ediv_of_nonneg h]; omega
  · have : n.tdiv 12 = -((-n) / 12) := by rw [← Int.tdiv_eq_ediv_of_nonneg (by omega), Int.neg_tdiv, Int.neg_neg]
    omega
theorem getD_get (l : List Int) (k : Nat) (h : k < l.length) : l.getD k 0 = l[k] := by simp [List.getD_eq_getElem?_getD, h]
def opX17 : Op := Op.load 35 (Operand.tmp 90)
theorem opX17_eq : opX17 = Op.load 35 (Operand.tmp 90) := rfl
theorem ext_at {a b c : World} {r : Option Nat} (hg : b.grownBy c r) (h : Ext a b) : Ext a b := h
def NmRel (w : World) (pcs : Array Value) (g3 gm k1 k2 : Nat) (nms : List Int) (N : List NmD) (C : List Nat) (D : Bs) (A1 : Option Addr) (c1 : Nat) (A2 : Option Addr) (c2 : Nat) (v : Value) (wr : World) : Prop :=
  ∃ (k : Nat) (acc : List NmD) (A3 : Option Addr) (c3 : Nat), k ≤ nms.length ∧ v = .int .i64 k ∧ namesR k1 k2 (nms.drop k) acc k = N ∧ acc.length ≤ k ∧ ObSt w 76 pcs g3 gm k (metB acc) ⟨C, D, acc, []⟩ ⟨A1, k1, c1, A2, k2, c2, A3, acc.length, c3, none, 0, 0⟩ wr
def NeRel (w : World) (pcs : Array Value) (g3 gm k1 k2 : Nat) (f : Bs → Bool) (nds : List Int) (E : List NeD) (C : List Nat) (D : Bs) (N : List NmD) (A1 : Option Addr) (c1 : Nat) (A2 : Option Addr) (c2 : Nat) (A3 : Option Addr) (c3 : Nat) (K : Nat) (v : Value) (wr : World) : Prop :=
  ∃ (k : Nat) (acc : List NeD) (A4 : Option Addr) (c4 : Nat), k ≤ nds.length ∧ v = .int .i64 k ∧ acc ++ needsR k1 (nds.drop k) k = E ∧ acc.length ≤ k ∧ ObSt w 76 pcs g3 gm K f ⟨C, D, N, acc⟩ ⟨A1, k1, c1, A2, k2, c2, A3, N.length, c3, A4, acc.length, c4⟩ wr
section
variable {w W w8 : World} {gr g3 k1 k2 : Nat} {cs : List Nat} {ds : Bs} {A6 A8 : Option Addr} {c6 c8 : Nat}
theorem ObjCut1.drew {s3 : Value} {wx : World} (h : ObjCut1 w W gr k1 k2 cs ds s3 wx) : ObjCut1 w W gr k1 k2 cs ds s3 wx.drew := by
  obtain ⟨g, A1, c1, A2, c2, h1, h2, h3, h4, h5, h6⟩ := h
  exact ⟨g, A1, c1, A2, c2, h1, h2, h3.drew, h4, h5, h6.drew⟩
theorem cutA (ho1 : w8.ownsRow w.heap.size 31 1 (.slice A6 k1 c6) k1 (codeV cs)) (ho2 : w8.ownsRow w.heap.size 5 1 (.slice A8 k2 c8) k2 (bytesV ds)) (hx : Ext W w8) (hgr : gr < W.heap.size) :
    ObjCut1 w W gr k1 k2 cs ds (.pointer (some ⟨w8.heap.size, 0, none⟩)) (w8.alloc (.cells #[.slice A6 k1 c6, .slice A8 k2 c8, .slice none 0 0, .slice none 0 0] obT)) :=
  ⟨w8.heap.size, A6, c6, A8, c8, rfl, Nat.lt_of_lt_of_le hgr hx.size, Blk.new _ _ _, ho1.alloc _, ho2.alloc _, hx.alloc _⟩
theorem cutB (hb : Blk w8 g3 obT #[.slice none 0 0, .slice none 0 0, .slice none 0 0, .slice none 0 0]) (ho1 : w8.ownsRow w.heap.size 31 1 (.slice A6 k1 c6) k1 (codeV cs)) (ho2 : w8.ownsRow w.heap.size 5 1 (.slice A8 k2 c8) k2 (bytesV ds)) (hx : Ext W w8) (hgr : gr < W.heap.size) (hg : W.heap.size ≤ g3) :
    ObjCut1 w W gr k1 k2 cs ds (.pointer (some ⟨g3, 0, none⟩)) ((((w8.setCell ⟨g3, 0, none⟩ (.slice A6 k1 c6)).setCell ⟨g3, 1, none⟩ (.slice A8 k2 c8)).setCell ⟨g3, 2, none⟩ (.slice none 0 0)).setCell ⟨g3, 3, none⟩ (.slice none 0 0)) := by
  have n1 := own_blk_ne ho1 hb (by decide)
  have n2 := own_blk_ne ho2 hb (by decide)
  exact ⟨g3, A6, c6, A8, c8, rfl, Nat.lt_of_lt_of_le hgr hg, (((hb.set_ 0 _).set_ 1 _).set_ 2 _).set_ 3 _, own_far (own_far (own_far (own_far ho1 n1 _) n1 _) n1 _) n1 _, own_far (own_far (own_far (own_far ho2 n2 _) n2 _) n2 _) n2 _, (((hx.setCell (p := ⟨g3, 0, none⟩) hg _).setCell (p := ⟨g3, 1, none⟩) hg _).setCell (p := ⟨g3, 2, none⟩) hg _).setCell (p := ⟨g3, 3, none⟩) hg _⟩
end
set_option maxHeartbeats 16000000 in
set_option maxRecDepth 100000 in
theorem object_any (code : List Nat) (data : Bs) (nms nds : List Int) (A1 : Option Addr) (n1 c1 : Nat) (A2 : Option Addr) (n2 c2 : Nat) (A3 : Option Addr) (n3 c3 : Nat) (A4 : Option Addr) (n4 c4 : Nat) (w : World)
    (h1 : Reads w w.heap.size 1 A1 n1 (codeV code)) (hc1 : n1 ≤ c1) (hm1 : c1 ≤ maxLen) (ha1 : A1 = none → n1 = 0)
    (h2 : Reads w w.heap.size 1 A2 n2 (bytesV data)) (hc2 : n2 ≤ c2) (hm2 : c2 ≤ maxLen) (ha2 : A2 = none → n2 = 0)
    (h3 : Reads w w.heap.size 1 A3 n3 (intsV nms)) (hm3 : n3 ≤ maxLen) (hz3 : ∀ z ∈ nms, -9223372036854775808 ≤ z ∧ z ≤ 9223372036854775807)
    (h4 : Reads w w.heap.size 1 A4 n4 (intsV nds)) (hm4 : n4 ≤ maxLen) (hz4 : ∀ z ∈ nds, -9223372036854775808 ≤ z ∧ z ≤ 9223372036854775807) :
    Calls Tryd.prog 23 #[.agg #[.slice A1 n1 c1, .slice A2 n2 c2, .slice A3 n3 c3, .slice A4 n4 c4]] w fun e w' => ∃ v : ObV, e = .returned (.agg v.cells) ∧ ObOwn w' w.heap.size (objR code data nms nds) v ∧ Ext w w' := by
  have l1 : code.length = n1 := by have := h1.1; rw [codeV_len] at this; omega
  have l2 : data.length = n2 := by have := h2.1; rw [bytesV_length] at this; omega
  have R1 := hide (h1.take (k := min n1 20) (by omega))
  have R2 := hide (h2.take (k := min n2 40) (by omega))
  have R3 := hide h3
  have R4 := hide h4
  have Z3 := hide hz3
  have Z4 := hide hz4
  have e1 : (codeV code).take (min n1 20) = codeV (code.take 20) := by
    unfold codeV
    rw [← List.map_take]
    congr 1
    rcases Nat.le_total n1 20 with h | h
    · rw [Nat.min_eq_left h, List.take_of_length_le (by omega), List.take_of_length_le (by omega)]
    · rw [Nat.min_eq_right h]
  have e2 : (bytesV data).take (min n2 40) = bytesV (data.take 40) := by
    rw [bytesV_take]
    congr 1
    rcases Nat.le_total n2 40 with h | h
    · rw [Nat.min_eq_left h, List.take_of_length_le (by omega), List.take_of_length_le (by omega)]
    · rw [Nat.min_eq_right h]
  rw [e1] at R1
  rw [e2] at R2
  unfold maxLen at hm1 hm2 hm3 hm4
  obtain ⟨k1, hk1⟩ : ∃ k, min n1 20 = k := ⟨_, rfl⟩
  obtain ⟨k2, hk2⟩ : ∃ k, min n2 40 = k := ⟨_, rfl⟩
  rw [hk1] at R1
  rw [hk2] at R2
  have hmin1 : (min (n1 : Int) 20) = (k1 : Int) := by omega
  have HK := hide (show (code.take 20).length = k1 ∧ (data.take 40).length = k2 by rw [List.length_take, List.length_take]; omega)
  obtain ⟨ui, hui, hu0, hu1, hu2⟩ := info_parts u32_info
  have hsl : ∀ W : World, (Instr.slice 32 (.slice A1 n1 c1) none (some (.int .i64 (k1 : Int))) none).run Tryd.prog W = .ok (.slice A1 k1 c1) W := fun W => cut_hi Tryd.underlying32 hui hu1 A1 n1 c1 (k1 : Int) k1 rfl (by omega) .i64 W
  have hb0 := (Blk.new w 76 #[.slice A1 n1 c1, .slice A2 n2 c2, .slice A3 n3 c3, .slice A4 n4 c4]).alloc (.cells #[.slice none 0 0, .slice none 0 0, .slice none 0 0, .slice none 0 0] obT)
  have hb1 := Blk.new' (w.alloc (.cells #[.slice A1 n1 c1, .slice A2 n2 c2, .slice A3 n3 c3, .slice A4 n4 c4] 76)) obT #[.slice none 0 0, .slice none 0 0, .slice none 0 0, .slice none 0 0] (g := w.heap.size + 1) (by simp)
  have HX0 := hide (((Ext.refl w).alloc (.cells #[.slice A1 n1 c1, .slice A2 n2 c2, .slice A3 n3 c3, .slice A4 n4 c4] 76)).alloc (.cells #[.slice none 0 0, .slice none 0 0, .slice none 0 0, .slice none 0 0] obT))
  clear h1 h2 h3 h4 hz3 hz4 e1 e2
  go_enter Tryd.func23, Tryd.ntmps23
  go_upto_region 1 with fail
  generalize (w.alloc (.cells #[.slice A1 n1 c1, .slice A2 n2 c2, .slice A3 n3 c3, .slice A4 n4 c4] 76)).alloc (.cells #[.slice none 0 0, .slice none 0 0, .slice none 0 0, .slice none 0 0] obT) = W at *
  have HBP := hide hb0
  have HBR := hide hb1
  have p0 : W.cell? ⟨w.heap.size, 0, none⟩ = some (.slice A1 n1 c1) := hb0.cell 0
  have p1 : W.cell? ⟨w.heap.size, 1, none⟩ = some (.slice A2 n2 c2) := hb0.cell 1
  have hgr : w.heap.size + 1 < W.heap.size := hb1.lt
  clear hb0 hb1
  have HK2 := hide hk2
  go_cut [3] (ObjCut1 w W (w.heap.size + 1) k1 k2 (code.take 20) (data.take 40))
  case first =>
    go_region_held3 (fun w' => w'.cell? ⟨w.heap.size, 0, none⟩ = some (.slice A1 n1 c1) ∧ w'.cell? ⟨w.heap.size, 1, none⟩ = some (.slice A2 n2 c2))
      (first | exact ⟨p0, p1⟩ | (refine ⟨Ext.cell (w := W) ?_ p0, Ext.cell (w := W) ?_ p1⟩ <;> ((repeat (first | with_reducible exact Ext.refl _ | with_reducible assumption | with_reducible refine Ext.alloc ?_ _ | with_reducible refine Ext.drew ?_ | with_reducible refine Ext.drewN ?_ _ | with_reducible refine Ext.setCell ?_ (by first | exact Nat.le_refl _ | assumption | (simp; done) | omega) _ | with_reducible refine Ext.trans ?_ (by with_reducible assumption))); done)) | (refine ⟨Ext.cell (w := w8) ?_ s0, Ext.cell (w := w8) ?_ s1⟩ <;> ((repeat (first | with_reducible exact Ext.refl _ | with_reducible assumption | with_reducible refine Ext.alloc ?_ _ | with_reducible refine Ext.drew ?_ | with_reducible refine Ext.drewN ?_ _ | with_reducible refine Ext.setCell ?_ (by first | exact Nat.le_refl _ | assumption | (simp; done) | omega) _ | with_reducible refine Ext.trans ?_ (by with_reducible assumption))); done)) | exact ⟨far1 (far1 (far1 (far1 s0 (by show _ ≠ w.heap.size; omega) _) (by show _ ≠ w.heap.size; omega) _) (by show _ ≠ w.heap.size; omega) _) (by show _ ≠ w.heap.size; omega) _, far1 (far1 (far1 (far1 s1 (by show _ ≠ w.heap.size; omega) _) (by show _ ≠ w.heap.size; omega) _) (by show _ ≠ w.heap.size; omega) _) (by show _ ≠ w.heap.size; omega) _⟩ | exact ⟨far1 (far1 (far1 (far1 (Ext.cell ((Ext.refl w8).alloc _) s0) (by show _ ≠ w.heap.size; omega) _) (by show _ ≠ w.heap.size; omega) _) (by show _ ≠ w.heap.size; omega) _) (by show _ ≠ w.heap.size; omega) _, far1 (far1 (far1 (far1 (Ext.cell ((Ext.refl w8).alloc _) s1) (by show _ ≠ w.heap.size; omega) _) (by show _ ≠ w.heap.size; omega) _) (by show _ ≠ w.heap.size; omega) _) (by show _ ≠ w.heap.size; omega) _⟩ | fail)
      (first
        | (go_at_call_of 36 (Value.slice A1 k1 c1); refine (uclone_any A1 k1 c1 w.heap.size _ _ ((HX0.out.trans (by ((repeat (first | with_reducible exact Ext.refl _ | with_reducible assumption | with_reducible refine Ext.alloc ?_ _ | with_reducible refine Ext.drew ?_ | with_reducible refine Ext.drewN ?_ _ | with_reducible refine Ext.setCell ?_ (by first | exact Nat.le_refl _ | assumption | (simp; done) | omega) _ | with_reducible refine Ext.trans ?_ (by with_reducible assumption))); done))).reads R1.out (Nat.le_refl _)) (codeV_one _) (Ext.size (HX0.out.trans (by ((repeat (first | with_reducible exact Ext.refl _ | with_reducible assumption | with_reducible refine Ext.alloc ?_ _ | with_reducible refine Ext.drew ?_ | with_reducible refine Ext.drewN ?_ _ | with_reducible refine Ext.setCell ?_ (by first | exact Nat.le_refl _ | assumption | (simp; done) | omega) _ | with_reducible refine Ext.trans ?_ (by with_reducible assumption))); done)))) (by omega) (fun h => by have := ha1 h; omega)).mono ?_; rintro e w6 ⟨A6, c6, rfl, ho6, hx6⟩
           have HO6 := hide (own_mono ho6 (Ext.size (HX0.out.trans (by ((repeat (first | with_reducible exact Ext.refl _ | with_reducible assumption | with_reducible refine Ext.alloc ?_ _ | with_reducible refine Ext.drew ?_ | with_reducible refine Ext.drewN ?_ _ | with_reducible refine Ext.setCell ?_ (by first | exact Nat.le_refl _ | assumption | (simp; done) | omega) _ | with_reducible refine Ext.trans ?_ (by with_reducible assumption))); done)))))
           have HX6 := hide (Ext.trans (a := W) (by ((repeat (first | with_reducible exact Ext.refl _ | with_reducible assumption | with_reducible refine Ext.alloc ?_ _ | with_reducible refine Ext.drew ?_ | with_reducible refine Ext.drewN ?_ _ | with_reducible refine Ext.setCell ?_ (by first | exact Nat.le_refl _ | assumption | (simp; done) | omega) _ | with_reducible refine Ext.trans ?_ (by with_reducible assumption))); done)) hx6)
           first | have HBY := hide ((Blk.new W obT #[.slice none 0 0, .slice none 0 0, .slice none 0 0, .slice none 0 0]).ext hx6) | have HBY := hide ((Blk.new W obT #[.slice none 0 0, .slice none 0 0, .slice none 0 0, .slice none 0 0]).drew.ext hx6) | have HBY := hide ((Blk.new W.drew obT #[.slice none 0 0, .slice none 0 0, .slice none 0 0, .slice none 0 0]).ext hx6) | have HBY := hide True.intro)
        | (go_at_call_of 38 (Value.slice A2 n2 c2); refine (cut_any A2 n2 c2 40 _ hc2 (by unfold maxLen; omega) (by omega)).mono ?_; rintro e w7 ⟨rfl, rfl⟩; rw [HK2.out])
        | (go_at_call_of 37 (Value.slice A2 k2 c2); refine (bclone_any A2 k2 c2 w.heap.size _ _ ((HX0.out.trans (by ((repeat (first | with_reducible exact Ext.refl _ | with_reducible assumption | with_reducible refine Ext.alloc ?_ _ | with_reducible refine Ext.drew ?_ | with_reducible refine Ext.drewN ?_ _ | with_reducible refine Ext.setCell ?_ (by first | exact Nat.le_refl _ | assumption | (simp; done) | omega) _ | with_reducible refine Ext.trans ?_ (by with_reducible assumption))); done))).reads R2.out (Nat.le_refl _)) (bytesV_one _) (Ext.size (HX0.out.trans (by ((repeat (first | with_reducible exact Ext.refl _ | with_reducible assumption | with_reducible refine Ext.alloc ?_ _ | with_reducible refine Ext.drew ?_ | with_reducible refine Ext.drewN ?_ _ | with_reducible refine Ext.setCell ?_ (by first | exact Nat.le_refl _ | assumption | (simp; done) | omega) _ | with_reducible refine Ext.trans ?_ (by with_reducible assumption))); done)))) (by omega) (fun h => by have := ha2 h; omega)).mono ?_; rintro e w8 ⟨A8, c8, rfl, ho8, hx8⟩
           have HO8 := hide (own_mono ho8 (Ext.size (HX0.out.trans (HX6.out.trans (by ((repeat (first | with_reducible exact Ext.refl _ | with_reducible assumption | with_reducible refine Ext.alloc ?_ _ | with_reducible refine Ext.drew ?_ | with_reducible refine Ext.drewN ?_ _ | with_reducible refine Ext.setCell ?_ (by first | exact Nat.le_refl _ | assumption | (simp; done) | omega) _ | with_reducible refine Ext.trans ?_ (by with_reducible assumption))); done))))))
           have HX8 := hide (Ext.trans (a := w6) (by ((repeat (first | with_reducible exact Ext.refl _ | with_reducible assumption | with_reducible refine Ext.alloc ?_ _ | with_reducible refine Ext.drew ?_ | with_reducible refine Ext.drewN ?_ _ | with_reducible refine Ext.setCell ?_ (by first | exact Nat.le_refl _ | assumption | (simp; done) | omega) _ | with_reducible refine Ext.trans ?_ (by with_reducible assumption))); done)) hx8)
           have s0 := HX8.out.cell (HX6.out.cell p0)
           have s1 := HX8.out.cell (HX6.out.cell p1)
           have hz6 := HX6.out.size
           have hz8 := HX8.out.size
           first | have HBZ := hide ((Blk.new w6 obT #[.slice none 0 0, .slice none 0 0, .slice none 0 0, .slice none 0 0]).ext hx8) | have HBZ := hide ((Blk.new w6 obT #[.slice none 0 0, .slice none 0 0, .slice none 0 0, .slice none 0 0]).drew.ext hx8) | have HBZ := hide ((Blk.new w6.drew obT #[.slice none 0 0, .slice none 0 0, .slice none 0 0, .slice none 0 0]).ext hx8) | have HBZ := hide (HBY.out.ext hx8) | have HBZ := hide (HBY.out.drew.ext hx8) | have HBZ := hide True.intro
           first
             | (have y0 : w8.cell? ⟨_, 0, none⟩ = some (.slice none 0 0) := HBZ.out.cell 0
                have y1 : w8.cell? ⟨_, 1, none⟩ = some (.slice none 0 0) := HBZ.out.cell 1
                have y2 : w8.cell? ⟨_, 2, none⟩ = some (.slice none 0 0) := HBZ.out.cell 2
                have y3 : w8.cell? ⟨_, 3, none⟩ = some (.slice none 0 0) := HBZ.out.cell 3
                have f0 := HBZ.out.frozen 0
                have f1 := HBZ.out.frozen 1
                have f2 := HBZ.out.frozen 2
                have f3 := HBZ.out.frozen 3)
             | skip)
        | fail)
    all_goals
      have HOX := hide (HX8.out.own HO6.out)
      have HXX := hide (HX6.out.trans HX8.out)
      go_wp2_with fail
      go_meet
      first
        | exact cutA HOX.out HO8.out HXX.out hgr
        | exact (cutA HOX.out HO8.out HXX.out hgr).drew
        | exact cutA (w8 := w8.drew) HOX.out HO8.out HXX.out.drew hgr
        | exact (cutA (w8 := w8.drew) HOX.out HO8.out HXX.out.drew hgr).drew
        | exact cutB HBZ.out HOX.out HO8.out HXX.out hgr hz6
        | exact (cutB HBZ.out HOX.out HO8.out HXX.out hgr hz6).drew
        | exact cutB HBZ.out HOX.out HO8.out HXX.out hgr (Nat.le_refl _)
        | exact (cutB HBZ.out HOX.out HO8.out HXX.out hgr (Nat.le_refl _)).drew
  case rest =>
    obtain ⟨g3, A5, c5, A6, c6, rfl, hg3, hbx, hcc, hdd, hxx⟩ := hcut
    have HST0 := hide (show ObSt w 76 #[.slice A1 n1 c1, .slice A2 n2 c2, .slice A3 n3 c3, .slice A4 n4 c4] g3 wc.heap.size 0 (metB []) ⟨code.take 20, data.take 40, [], []⟩ ⟨A5, k1, c5, A6, k2, c6, none, 0, 0, none, 0, 0⟩ (wc.alloc (.map #[] 0)) from
      ⟨(HBP.out.ext hxx).alloc _, (HBR.out.ext hxx).alloc _, hbx.alloc _, hcc.alloc _, hdd.alloc _, World.ownsRow_nil _ _ _ _, World.ownsRow_nil _ _ _ _, by rw [metB_nil]; exact MapSB.made wc, (HX0.out.trans hxx).alloc _, hg3, hbx.lt, fun j hj => (hcc.lt j hj).2, fun j hj => (hdd.lt j hj).2⟩)
    clear hbx hcc hdd hxx HBP HBR p0 p1 R1 R2 hsl hmin1 HX0
    have hmm := @run_makeMap Tryd.prog
    go_upto_region 3 with fail
    clear hmm
    generalize wc.alloc (.map #[] 0) = W2 at *
    generalize wc.heap.size = gm at *
    have z2 : W2.cell? ⟨w.heap.size, 2, none⟩ = some (.slice A3 n3 c3) := HST0.out.part.cell 2
    go_wp2_with fail
    clear z2
    have ln3 : nms.length = n3 := by have := R3.out.1; rw [intsV_length] at this; omega
    have ln4 : nds.length = n4 := by have := R4.out.1; rw [intsV_length] at this; omega
    go_loopw [27] (NmRel w #[.slice A1 n1 c1, .slice A2 n2 c2, .slice A3 n3 c3, .slice A4 n4 c4] g3 gm k1 k2 nms (namesR k1 k2 nms [] 0) (code.take 20) (data.take 40) A5 c5 A6 c6) (fun i _ => n3 - (intOf i).toNat)
    case atStart => exact ⟨0, [], none, 0, Nat.zero_le _, rfl, rfl, Nat.le_refl _, HST0.out⟩
    case round =>
      obtain ⟨k, acc, A7, c7, hk, rfl, hN, hacc, hst⟩ := hrel
      have HN := hide hN
      have HST := hide hst
      clear hN hst HST0
      by_cases hlt : k < n3
      · have hkl : k < nms.length := by omega
        obtain ⟨b3, o3, rfl, -⟩ := R3.out.at1 (by omega)
        have q0 := HST.out.ext.cell (cells_ints R3.out k hlt)
        have hzz := Z3.out (nms.getD k 0) (by rw [getD_get _ _ hkl]; exact List.getElem_mem hkl)
        have HN2 := hide (show namesR k1 k2 (nms.drop (k + 1)) (addN k1 k2 acc k (nms.getD k 0)) (k + 1) = namesR k1 k2 nms [] 0 by rw [← HN.out, List.drop_eq_getElem_cons hkl, getD_get _ _ hkl]; rfl)
        generalize nms.getD k 0 = n at *
        obtain ⟨hz1, hz2⟩ := hzz
        have hd1 := tdiv_bd n hz1 hz2
        have HNM := hide (fun W : World => name_any n W hz1 hz2)
        have HRS := hide (fun W : World => calls_back (rest_any (n.tdiv 12) ((k1 : Int) + 1) W (by omega) (by omega) (by omega) (by omega)))
        have HRD := hide (fun W : World => calls_back (rest_any (n.tdiv 12) ((k2 : Int) + 1) W (by omega) (by omega) (by omega) (by omega)))
        have g0 : wr.cell? ⟨g3, 0, none⟩ = some (.slice A5 k1 c5) := HST.out.box.cell 0
        have r1 := restZ_lo (n.tdiv 12) ((k1 : Int) + 1) (by omega)
        have r2 := restZ_hi (n.tdiv 12) ((k1 : Int) + 1) (by omega)
        have r3 := restZ_lo (n.tdiv 12) ((k2 : Int) + 1) (by omega)
        have r4 := restZ_hi (n.tdiv 12) ((k2 : Int) + 1) (by omega)
        have HMK := hide (show mkN k1 k2 n = if n % 2 = 0 then ⟨nameN n, 2, restZ (n.tdiv 12) ((k2 : Int) + 1), decide (n % 3 = 0)⟩ else ⟨nameN n, 1, 4 * restZ (n.tdiv 12) ((k1 : Int) + 1), decide (n % 3 = 0)⟩ from rfl)
        generalize restZ (n.tdiv 12) ((k1 : Int) + 1) = x1 at *
        generalize restZ (n.tdiv 12) ((k2 : Int) + 1) = x2 at *
        have hw1 : IntKind.i64.wrap (n.tdiv 12) = n.tdiv 12 := by rw [IntKind.wrap_i64]; omega
        have hw2 : IntKind.i64.wrap ((k1 : Int) + 1) = (((k1 : Int) + 1) : Int) := by rw [IntKind.wrap_i64]; omega
        have hw3 : IntKind.i64.wrap (4 * x1) = 4 * x1 := by rw [IntKind.wrap_i64]; omega
        have hw4 : IntKind.i64.wrap ((k2 : Int) + 1) = (((k2 : Int) + 1) : Int) := by rw [IntKind.wrap_i64]; omega
        obtain ⟨i0, hi0, hz0, hz1, hz2⟩ := info_parts nm_info
        go_upto_region 6 with fail
        go_cut [7, 27] from 27 to 76 (fun s7 s27 wx => s27 = .int .i64 k ∧ NewAt wr nmT #[.string (str (nameN n)), .int .i64 1, .int .i64 (4 * x1), .bool (n.tmod 3 == 0)] s7 wx)
        case first =>
          go_region_held3 (fun w' => w'.cell? ⟨g3, 0, none⟩ = some (.slice A5 k1 c5))
            (first | exact g0 | (refine Ext.cell (w := wr) ?_ g0; ((repeat (first | with_reducible exact Ext.refl _ | with_reducible assumption | with_reducible refine Ext.alloc ?_ _ | with_reducible refine Ext.drew ?_ | with_reducible refine Ext.drewN ?_ _ | with_reducible refine Ext.setCell ?_ (by first | exact Nat.le_refl _ | assumption | (simp; done) | omega) _ | with_reducible refine Ext.trans ?_ (by with_reducible assumption))); done)) | fail)
            (first
              | (go_at_call_of 39 (Value.int .i64 n); refine (HNM.out _).mono ?_; rintro e w6 ⟨rfl, rfl⟩)
              | (go_at_call_of 20 (Value.int .i64 (n.tdiv 12)); refine (HRS.out _).mono ?_; rintro e w6 ⟨rfl, rfl⟩)
              | fail)
          all_goals
            go_wp2_with fail
            go_meet
            refine ⟨rfl, ?_⟩
            first
              | exact newA (Ext.refl wr)
              | exact (newA (Ext.refl wr)).drew
              | exact newA (Ext.refl wr).drew
              | exact (newA (Ext.refl wr).drew).drew
              | exact newA ((Ext.refl wr).drewN _)
              | exact newB4 (Blk.new wr nmT _) (Nat.le_refl _) (by ((repeat (first | with_reducible exact Ext.refl _ | with_reducible assumption | with_reducible refine Ext.alloc ?_ _ | with_reducible refine Ext.drew ?_ | with_reducible refine Ext.drewN ?_ _ | with_reducible refine Ext.setCell ?_ (by first | exact Nat.le_refl _ | assumption | (simp; done) | omega) _ | with_reducible refine Ext.trans ?_ (by with_reducible assumption))); done))
              | exact (newB4 (Blk.new wr nmT _) (Nat.le_refl _) (by ((repeat (first | with_reducible exact Ext.refl _ | with_reducible assumption | with_reducible refine Ext.alloc ?_ _ | with_reducible refine Ext.drew ?_ | with_reducible refine Ext.drewN ?_ _ | with_reducible refine Ext.setCell ?_ (by first | exact Nat.le_refl _ | assumption | (simp; done) | omega) _ | with_reducible refine Ext.trans ?_ (by with_reducible assumption))); done))).drew
              | exact newB4 (Blk.new wr nmT _).drew (Nat.le_refl _) (by ((repeat (first | with_reducible exact Ext.refl _ | with_reducible assumption | with_reducible refine Ext.alloc ?_ _ | with_reducible refine Ext.drew ?_ | with_reducible refine Ext.drewN ?_ _ | with_reducible refine Ext.setCell ?_ (by first | exact Nat.le_refl _ | assumption | (simp; done) | omega) _ | with_reducible refine Ext.trans ?_ (by with_reducible assumption))); done))
              | exact (newB4 (Blk.new wr nmT _).drew (Nat.le_refl _) (by ((repeat (first | with_reducible exact Ext.refl _ | with_reducible assumption | with_reducible refine Ext.alloc ?_ _ | with_reducible refine Ext.drew ?_ | with_reducible refine Ext.drewN ?_ _ | with_reducible refine Ext.setCell ?_ (by first | exact Nat.le_refl _ | assumption | (simp; done) | omega) _ | with_reducible refine Ext.trans ?_ (by with_reducible assumption))); done))).drew
        case rest =>
          obtain ⟨rfl, g7, rfl, hb7, hg7, hx7⟩ := hcut
          have HB7 := hide hb7
          have HX7 := hide hx7
          clear hb7 q0 g0
          have t2 := tmod_zero n 2
          have t3 := tmod_zero n 3
          generalize (n.tmod 3 == 0) = wk at *
          have HNL := hide (nameN_len n)
          by_cases hev : n % 2 = 0
          case' pos =>
            rw [decide_eq_true hev] at t2
            have HMI := hide (show mkN k1 k2 n = ⟨nameN n, 2, x2, wk⟩ by rw [HMK.out, if_pos hev, ← t3])
            have p1 : wc.cell? ⟨g3, 1, none⟩ = some (.slice A6 k2 c6) := (HST.out.to hx7).box.cell 1
            have p2 : wc.cell? ⟨g7, 1, none⟩ = some (.int .i64 1) := HB7.out.cell 1
            have p3 : wc.cell? ⟨g7, 2, none⟩ = some (.int .i64 (4 * x1)) := HB7.out.cell 2
            have f2 := HB7.out.frozen 1
            have f3 := HB7.out.frozen 2
            go_wp2_with fail
            refine (HRD.out wc).mono ?_
            rintro e w6 ⟨rfl, rfl⟩
            go_upto_region 9 with fail
            have HBZ := hide ((HB7.out.set_ 1 (.int .i64 2)).set_ 2 (.int .i64 x2))
            have HXZ := hide ((HX7.out.setCell (p := ⟨g7, 1, none⟩) hg7 (.int .i64 2)).setCell (p := ⟨g7, 2, none⟩) hg7 (.int .i64 x2))
            clear p1 p2 p3 f2 f3
            generalize (w6.setCell ⟨g7, 1, none⟩ (.int .i64 2)).setCell ⟨g7, 2, none⟩ (.int .i64 x2) = Wz at *
          case' neg =>
            rw [decide_eq_false hev] at t2
            have HMI := hide (show mkN k1 k2 n = ⟨nameN n, 1, 4 * x1, wk⟩ by rw [HMK.out, if_neg hev, ← t3])
            go_upto_region 9 with fail
            have HBZ := hide HB7.out
            have HXZ := hide HX7.out
            generalize wc = Wz at *
          all_goals
            have HSTZ := hide (HST.out.to HXZ.out)
            clear HX7 hx7 HB7 HMK HNM HRS HRD t2 t3
            have b0 : Wz.cell? ⟨g7, 0, none⟩ = some (.string (str (nameN n))) := HBZ.out.cell 0
            have hnl : (nameN n).length ≤ maxLen := by have := HNL.out; simp only [maxLen]; omega
            have hlook := HSTZ.out.map.look (nameN n) hnl
            have HMB := hide (show metB acc (nameN n) = decide (nameN n ∈ acc.map NmD.name) from rfl)
            have HAD := hide (show addN k1 k2 acc k n = if k < 8 ∧ nameN n ∉ acc.map NmD.name then acc ++ [mkN k1 k2 n] else acc from rfl)
            by_cases h8 : k < 8
            · generalize hmb : metB acc (nameN n) = mb at *
              cases mb with
              | true =>
                have HA2 := hide (show addN k1 k2 acc k n = acc by rw [HAD.out, if_neg (fun h => h.2 (of_decide_eq_true HMB.out.symm))])
                have HN3 := HN2
                rw [HA2.out] at HN3
                go_wp2_with fail
                go_roundw
                case rel => exact ⟨k + 1, acc, A7, c7, by omega, by go_num, HN3.out, by omega, HSTZ.out.later (by omega)⟩
                case measure => simp [intOf]; omega
              | false =>
                have HNI := hide (show nameN n ∉ acc.map NmD.name from of_decide_eq_false HMB.out.symm)
                have HA2 := hide (show addN k1 k2 acc k n = acc ++ [mkN k1 k2 n] by rw [HAD.out, if_pos ⟨h8, HNI.out⟩])
                have HN3 := HN2
                rw [HA2.out] at HN3
                obtain ⟨W11, hrun, hm11, hg11⟩ := HSTZ.out.map.store (by simp only [maxLen]; omega) (nameN n) hnl true
                have HST11 := hide (HSTZ.out.met hm11 hg11)
                obtain ⟨wh, pos, hmi, hb⟩ : ∃ wh pos, mkN k1 k2 n = ⟨nameN n, wh, pos, wk⟩ ∧ Blk Wz g7 nmT #[.string (str (nameN n)), .int .i64 wh, .int .i64 pos, .bool wk] := by first | exact ⟨_, _, HMI.out, HBZ.out⟩
                have HB11 := hide (hb.grown hg11 (fun e => by injection e with e; have := HST.out.map.lt; omega))
                have HMI2 := hide (show acc.flatMap nmC ++ nmC (mkN k1 k2 n) = acc.flatMap nmC ++ [.string (str (nameN n)), .int .i64 wh, .int .i64 pos, .bool wk] by rw [hmi]; rfl)
                clear hm11 hg11 hb hmi HBZ HMI HST
                go_upto_region 11 with fail
                clear hlook hrun b0 HSTZ
                have hb11 := HB11.out
                have y0 : W11.cell? ⟨g7, 0, none⟩ = some (.string (str (nameN n))) := hb11.cell 0
                have y1 : W11.cell? ⟨g7, 1, none⟩ = some (.int .i64 wh) := hb11.cell 1
                have y2 : W11.cell? ⟨g7, 2, none⟩ = some (.int .i64 pos) := hb11.cell 2
                have y3 : W11.cell? ⟨g7, 3, none⟩ = some (.bool wk) := hb11.cell 3
                have z2 : W11.cell? ⟨g3, 2, none⟩ = some (.slice A7 acc.length c7) := HST11.out.box.cell 2
                have hgml := HST11.out.map.lt
                clear hb11
                have HOW := hide (show (W11.alloc (.cells #[.string (str (nameN n)), .int .i64 wh, .int .i64 pos, .bool wk] nmT)).ownsRow (gm + 1) nmT 4 (.slice A7 acc.length c7) acc.length (acc.flatMap nmC) from HST11.out.names.alloc _)
                have HBW := hide (show Blk (W11.alloc (.cells #[.string (str (nameN n)), .int .i64 wh, .int .i64 pos, .bool wk] nmT)) g3 obT #[.slice A5 k1 c5, .slice A6 k2 c6, .slice A7 acc.length c7, .slice none 0 0] from HST11.out.box.alloc _)
                have HRW := hide ((Blk.new W11 nmT #[.string (str (nameN n)), .int .i64 wh, .int .i64 pos, .bool wk]).rowsF 1 4 rfl)
                have HL1 := hide (show acc.length + 1 ≤ maxLen by simp only [maxLen]; omega)
                have HL2 := hide (show (acc.length + 1) * 40 ≤ 140737488355328 by omega)
                have HL3 := hide (show gm + 1 ≤ (W11.alloc (.cells #[.string (str (nameN n)), .int .i64 wh, .int .i64 pos, .bool wk] nmT)).heap.size by simp; omega)
                have HNE := hide (own_blk_ne HOW.out HBW.out (by decide)).symm
                have HON := hide (show ∀ u ∈ [Value.string (str (nameN n)), .int .i64 wh, .int .i64 pos, .bool wk], u.oneCell' = true by simp [Value.oneCell'])
                go_wp2_with (at_builtin; refine wpList_append_any _ rfl (.tmp 71) (.tmp 73) 37 rfl (gm + 1) nmT i0 _ 4 40 Tryd.underlying37 hi0 hz0 hz1 hz2 rfl (by decide) (.slice A7 acc.length c7) acc.length (acc.flatMap nmC) rfl HOW.out _ _ 1 1 [.string (str (nameN n)), .int .i64 wh, .int .i64 pos, .bool wk] rfl HRW.out HON.out HL1.out HL2.out HL3.out ?_; intro A8 c8 w8 ho8 hg8 ha8; have k8 := (Blk.grown HBW.out hg8 HNE.out).frozen 2; have k9 : w8.cell? ⟨g3, 2, none⟩ = some (.slice A7 acc.length c7) := (Blk.grown HBW.out hg8 HNE.out).cell 2)
                have HST8 := hide ((HST11.out.to ((Ext.refl W11).alloc _)).name (by decide) (x := mkN k1 k2 n) (by rw [HMI2.out]; exact ho8) hg8)
                clear ho8 hg8 ha8 k8 k9 y0 y1 y2 y3 z2
                generalize w8.setCell ⟨g3, 2, none⟩ (.slice A8 (acc.length + 1) c8) = W9 at *
                have HLE := hide (show (acc ++ [mkN k1 k2 n]).length = acc.length + 1 by simp)
                go_roundw
                case rel => exact ⟨k + 1, acc ++ [mkN k1 k2 n], A8, c8, by omega, by go_num, HN3.out, by rw [HLE.out]; omega, by rw [HLE.out, metB_snoc, mkN_name]; exact HST8.out⟩
                case measure => simp [intOf]; omega
            · have HA2 := hide (show addN k1 k2 acc k n = acc by rw [HAD.out, if_neg (fun h => h8 h.1)])
              have HN3 := HN2
              rw [HA2.out] at HN3
              go_wp2_with fail
              go_roundw
              case rel => exact ⟨k + 1, acc, A7, c7, by omega, by go_num, HN3.out, by omega, HSTZ.out.later (by omega)⟩
              case measure => simp [intOf]; omega
      · obtain rfl : k = n3 := by omega
        have HNF := hide (show acc = namesR k1 k2 nms [] 0 by rw [← HN.out, List.drop_of_length_le (by omega)]; rfl)
        have z3 : wr.cell? ⟨w.heap.size, 3, none⟩ = some (.slice A4 n4 c4) := HST.out.part.cell 3
        clear HN
        generalize metB acc = fm at *
        go_wp2_with fail
        clear z3
        go_loopw [80] (NeRel w #[.slice A1 n1 c1, .slice A2 n2 c2, .slice A3 k c3, .slice A4 n4 c4] g3 gm k1 k2 fm nds (needsR k1 nds 0) (code.take 20) (data.take 40) acc A5 c5 A6 c6 A7 c7 k) (fun i _ => n4 - (intOf i).toNat)
        case atStart => exact ⟨0, [], none, 0, Nat.zero_le _, rfl, rfl, Nat.le_refl _, HST.out⟩
        case round =>
          obtain ⟨k', ac, A9, c9, hk', rfl, hN, hac, hst⟩ := hrel
          have HN := hide hN
          have HSR := hide hst
          clear hN hst HST
          by_cases hlt2 : k' < n4
          · have hkl2 : k' < nds.length := by omega
            obtain ⟨b4, o4, rfl, -⟩ := R4.out.at1 (by omega)
            have q0 := HSR.out.ext.cell (cells_ints R4.out k' hlt2)
            have hzz := Z4.out (nds.getD k' 0) (by rw [getD_get _ _ hkl2]; exact List.getElem_mem hkl2)
            have HN2 := hide (show ac ++ (if k' < k1 then mkE k' (nds.getD k' 0) :: needsR k1 (nds.drop (k' + 1)) (k' + 1) else needsR k1 (nds.drop (k' + 1)) (k' + 1)) = needsR k1 nds 0 by rw [← HN.out, List.drop_eq_getElem_cons hkl2, getD_get _ _ hkl2]; rfl)
            generalize nds.getD k' 0 = n at *
            obtain ⟨hb1, hb2⟩ := hzz
            have g0 : wr.cell? ⟨g3, 0, none⟩ = some (.slice A5 k1 c5) := HSR.out.box.cell 0
            by_cases hin : k' < k1
            · rw [if_pos hin] at HN2
              have hd1 := tdiv_bd n hb1 hb2
              have HNM := hide (fun W : World => name_any n W hb1 hb2)
              have HRS := hide (fun W : World => calls_back (rest_any (n.tdiv 12) 3 W (by omega) (by omega) (by omega) (by omega)))
              have r1 := restZ_lo (n.tdiv 12) 3 (by omega)
              have r2 := restZ_hi (n.tdiv 12) 3 (by omega)
              have HMK := hide (show mkE k' n = ⟨4 * (k' : Int), nameN n, 1 + restZ (n.tdiv 12) 3⟩ from rfl)
              generalize restZ (n.tdiv 12) 3 = x1 at *
              have hw1 : IntKind.i64.wrap (n.tdiv 12) = n.tdiv 12 := by rw [IntKind.wrap_i64]; omega
              have hw2 : IntKind.i64.wrap (4 * (k' : Int)) = 4 * (k' : Int) := by rw [IntKind.wrap_i64]; omega
              have hw3 : IntKind.i64.wrap (1 + x1) = 1 + x1 := by rw [IntKind.wrap_i64]; omega
              obtain ⟨i0, hi0, hz0, hz1, hz2⟩ := info_parts ne_info
              have HL1 := hide (show ac.length + 1 ≤ maxLen by simp only [maxLen]; omega)
              have HL2 := hide (show (ac.length + 1) * 32 ≤ 140737488355328 by omega)
              have hgml := HSR.out.map.lt
              have HMI := hide (show ac.flatMap neC ++ neC (mkE k' n) = ac.flatMap neC ++ [.int .i64 (4 * (k' : Int)), .string (str (nameN n)), .int .i64 (1 + x1)] by rw [HMK.out]; rfl)
              have HON := hide (show ∀ u ∈ [Value.int .i64 (4 * (k' : Int)), .string (str (nameN n)), .int .i64 (1 + x1)], u.oneCell' = true by simp [Value.oneCell'])
              have HBX := hide (show Blk wr g3 obT #[.slice A5 k1 c5, .slice A6 k2 c6, .slice A7 acc.length c7, .slice A9 ac.length c9] from HSR.out.box)
              have HOX := hide (show wr.ownsRow (gm + 1) neT 3 (.slice A9 ac.length c9) ac.length (ac.flatMap neC) from HSR.out.needs)
              clear HN
              go_upto_region 17 with fail
              clear q0 g0
              rw [← opX17_eq]
              have hOp := opX17_eq
              have c0 : wr.cell? ⟨g3, 3, none⟩ = some (.slice A9 ac.length c9) := HBX.out.cell 3
              have m0 : wr.drew.cell? ⟨g3, 3, none⟩ = some (.slice A9 ac.length c9) := c0
              have m00 : wr.drew.drew.cell? ⟨g3, 3, none⟩ = some (.slice A9 ac.length c9) := c0
              have m2 : ∀ o, (wr.alloc o).cell? ⟨g3, 3, none⟩ = some (.slice A9 ac.length c9) := fun o => ((Ext.refl wr).alloc o).cell c0
              have m3 : ∀ o, (wr.drew.alloc o).cell? ⟨g3, 3, none⟩ = some (.slice A9 ac.length c9) := fun o => ((Ext.refl wr).drew.alloc o).cell c0
              have m4 : ∀ o, (wr.alloc o).drew.cell? ⟨g3, 3, none⟩ = some (.slice A9 ac.length c9) := fun o => ((Ext.refl wr).alloc o).drew.cell c0
              have m5 : ∀ o, (wr.drew.drew.alloc o).cell? ⟨g3, 3, none⟩ = some (.slice A9 ac.length c9) := fun o => ((Ext.refl wr).drew.drew.alloc o).cell c0
              have m6 : ∀ o, (wr.drew.alloc o).drew.cell? ⟨g3, 3, none⟩ = some (.slice A9 ac.length c9) := fun o => ((Ext.refl wr).drew.alloc o).drew.cell c0
              go_region_held3 (fun _ => True)
                (exact True.intro)
                (first
                  | (go_at_call_of 39 (Value.int .i64 n); refine (HNM.out _).mono ?_; rintro e w6 ⟨rfl, rfl⟩)
                  | (go_at_call_of 20 (Value.int .i64 (n.tdiv 12)); refine (HRS.out _).mono ?_; rintro e w6 ⟨rfl, rfl⟩)
                  | (refine step_append_any _ (by rfl) (.tmp 91) (.tmp 101) 35 (by rfl) (gm + 1) neT i0 _ 3 32 Tryd.underlying35 hi0 hz0 hz1 hz2 rfl (by decide) (.slice A9 ac.length c9) ac.length (ac.flatMap neC) (by rfl) (Ext.own (w := wr) (by ((repeat (first | with_reducible exact Ext.refl _ | with_reducible assumption | with_reducible refine Ext.alloc ?_ _ | with_reducible refine Ext.drew ?_ | with_reducible refine Ext.drewN ?_ _ | with_reducible refine Ext.setCell ?_ (by first | exact Nat.le_refl _ | assumption | (simp; done) | omega) _ | with_reducible refine Ext.trans ?_ (by with_reducible assumption))); done)) HOX.out) _ _ 1 1 [.int .i64 (4 * (k' : Int)), .string (str (nameN n)), .int .i64 (1 + x1)] (by rfl) (by first | exact (Blk.new wr neT _).rowsF 1 3 rfl | exact (Blk.new wr neT _).drew.rowsF 1 3 rfl | exact (Blk.new wr.drew neT _).rowsF 1 3 rfl | exact (Blk.new wr.drew neT _).drew.rowsF 1 3 rfl) HON.out HL1.out HL2.out (Nat.le_trans hgml (Ext.size (w := wr) (by ((repeat (first | with_reducible exact Ext.refl _ | with_reducible assumption | with_reducible refine Ext.alloc ?_ _ | with_reducible refine Ext.drew ?_ | with_reducible refine Ext.drewN ?_ _ | with_reducible refine Ext.setCell ?_ (by first | exact Nat.le_refl _ | assumption | (simp; done) | omega) _ | with_reducible refine Ext.trans ?_ (by with_reducible assumption))); done)))) ?_; intro A8 c8 w8 ho8 hg8 ha8
                     have HU := hide (ext_at hg8 (show Ext wr _ by ((repeat (first | with_reducible exact Ext.refl _ | with_reducible assumption | with_reducible refine Ext.alloc ?_ _ | with_reducible refine Ext.drew ?_ | with_reducible refine Ext.drewN ?_ _ | with_reducible refine Ext.setCell ?_ (by first | exact Nat.le_refl _ | assumption | (simp; done) | omega) _ | with_reducible refine Ext.trans ?_ (by with_reducible assumption))); done)))
                     have HNE := hide (own_blk_ne (HU.out.own HOX.out) (HBX.out.ext HU.out) (by decide)).symm
                     have k8 := (Blk.grown (HBX.out.ext HU.out) hg8 HNE.out).frozen 3
                     have k9 : w8.cell? ⟨g3, 3, none⟩ = some (.slice A9 ac.length c9) := (Blk.grown (HBX.out.ext HU.out) hg8 HNE.out).cell 3)
                  | fail)
              all_goals
                have HST8 := hide ((HSR.out.to HU.out).need (by decide) (x := mkE k' n) (by rw [HMI.out]; exact ho8) hg8)
                clear ho8 hg8 ha8 k8 k9 c0 m0 m00 m2 m3 m4 m5 m6 hOp
                generalize w8.setCell ⟨g3, 3, none⟩ (.slice A8 (ac.length + 1) c8) = W9 at *
                have HLE := hide (show (ac ++ [mkE k' n]).length = ac.length + 1 by simp)
                have HN3 := hide (show (ac ++ [mkE k' n]) ++ needsR k1 (nds.drop (k' + 1)) (k' + 1) = needsR k1 nds 0 by rw [← HN2.out, List.append_assoc]; rfl)
                go_wp2_with fail
                go_roundw
                case rel => exact ⟨k' + 1, ac ++ [mkE k' n], A8, c8, by omega, by go_num, HN3.out, by rw [HLE.out]; omega, by rw [HLE.out]; exact HST8.out⟩
                case measure => simp [intOf]; omega
            · rw [if_neg hin] at HN2
              go_wp2_with fail
              go_roundw
              case rel => exact ⟨k' + 1, ac, A9, c9, by omega, by go_num, HN2.out, by omega, HSR.out⟩
              case measure => simp [intOf]; omega
          · obtain rfl : k' = n4 := by omega
            have HEF := hide (show ac = needsR k1 nds 0 by rw [← HN.out, List.drop_of_length_le (by omega)]; simp [needsR])
            have hbx := HSR.out.box
            have hrs := HSR.out.res
            have m0 : wr.cell? ⟨g3, 0, none⟩ = some (.slice A5 k1 c5) := hbx.cell 0
            have m1 : wr.cell? ⟨g3, 1, none⟩ = some (.slice A6 k2 c6) := hbx.cell 1
            have m2 : wr.cell? ⟨g3, 2, none⟩ = some (.slice A7 acc.length c7) := hbx.cell 2
            have m3 : wr.cell? ⟨g3, 3, none⟩ = some (.slice A9 ac.length c9) := hbx.cell 3
            have s0 : wr.cell? ⟨w.heap.size + 1, 0, none⟩ = some (.slice none 0 0) := hrs.cell 0
            have s1 : wr.cell? ⟨w.heap.size + 1, 1, none⟩ = some (.slice none 0 0) := hrs.cell 1
            have s2 : wr.cell? ⟨w.heap.size + 1, 2, none⟩ = some (.slice none 0 0) := hrs.cell 2
            have s3 : wr.cell? ⟨w.heap.size + 1, 3, none⟩ = some (.slice none 0 0) := hrs.cell 3
            have f0 := hrs.frozen 0
            have f1 := hrs.frozen 1
            have f2 := hrs.frozen 2
            have f3 := hrs.frozen 3
            clear hbx hrs HN
            go_wp2_with fail
            have hs9 := (((HSR.out.res.set_ 0 (.slice A5 k1 c5)).set_ 1 (.slice A6 k2 c6)).set_ 2 (.slice A7 acc.length c7)).set_ 3 (.slice A9 ac.length c9)
            have HO9 := hide (ObSt.back HSR.out (.slice A5 k1 c5) (.slice A6 k2 c6) (.slice A7 acc.length c7) (.slice A9 ac.length c9))
            generalize (((wr.setCell ⟨w.heap.size + 1, 0, none⟩ (.slice A5 k1 c5)).setCell ⟨w.heap.size + 1, 1, none⟩ (.slice A6 k2 c6)).setCell ⟨w.heap.size + 1, 2, none⟩ (.slice A7 acc.length c7)).setCell ⟨w.heap.size + 1, 3, none⟩ (.slice A9 ac.length c9) = W9 at *
            have z0 : W9.cell? ⟨w.heap.size + 1, 0, none⟩ = some (.slice A5 k1 c5) := hs9.cell 0
            have z1 : W9.cell? ⟨w.heap.size + 1, 1, none⟩ = some (.slice A6 k2 c6) := hs9.cell 1
            have z2 : W9.cell? ⟨w.heap.size + 1, 2, none⟩ = some (.slice A7 acc.length c7) := hs9.cell 2
            have z3 : W9.cell? ⟨w.heap.size + 1, 3, none⟩ = some (.slice A9 ac.length c9) := hs9.cell 3
            refine bodyPost_ret (v := .agg #[.slice A5 k1 c5, .slice A6 k2 c6, .slice A7 acc.length c7, .slice A9 ac.length c9]) (by simp [results, Tryd.results23, go_sem, z0, z1, z2, z3]) rfl ?_
            have HOO := HO9.out
            rw [show (⟨code.take 20, data.take 40, acc, ac⟩ : ObD) = objR code data nms nds by rw [HNF.out, HEF.out]; unfold objR; rw [HK.out.1, HK.out.2]] at HOO
            exact ⟨⟨A5, k1, c5, A6, k2, c6, A7, acc.length, c7, A9, ac.length, c9⟩, rfl, HOO.1, HOO.2⟩
end Go.Proofs.YtljlniehbenefaaDoor
