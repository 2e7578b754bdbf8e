/- The walk of ObjBack. -/
import Derived.Test.YtekijkdgmfdnbaaDoorObPart
namespace Go.Proofs.YtekijkdgmfdnbaaDoor
open Go.RowKit
set_option linter.unusedVariables false

set_option maxHeartbeats 8000000 in
set_option maxRecDepth 100000 in
theorem oback_walk (A1 : Option Addr) (n1 c1 : Nat) (A2 : Option Addr) (n2 c2 : Nat) (A3 : Option Addr) (n3 c3 : Nat) (A4 : Option Addr) (n4 c4 : Nat) (code : List Nat) (data : Bs) (nms nds : List Int) (w : World) (h : PartRd w ⟨A1, n1, c1, A2, n2, c2, A3, n3, c3, A4, n4, c4⟩ code data nms nds) :
    Calls Tryd.prog 5 #[.agg #[.slice A1 n1 c1, .slice A2 n2 c2, .slice A3 n3 c3, .slice A4 n4 c4]] w fun e w' => e = .returned (.bool true) ∧ Ext w w' := by
  have HOK := hide (objR_ok code data nms nds)
  have HSM := hide (chk_sm (objR_ok code data nms nds) (objR_word h.word data nms nds))
  have HL := hide (enc_len (objR code data nms nds))
  have HLE := hide (enc_le (objR_ok code data nms nds))
  have HOB := hide (fun (W : World) (hx : Ext w W) => object_ok (h.ext hx))
  generalize objR code data nms nds = o at *
  have HX0 := hide ((Ext.refl w).alloc (.cells #[.slice A1 n1 c1, .slice A2 n2 c2, .slice A3 n3 c3, .slice A4 n4 c4] paT))
  have hb0 := Blk.new w paT #[.slice A1 n1 c1, .slice A2 n2 c2, .slice A3 n3 c3, .slice A4 n4 c4]
  clear h
  go_enter Tryd.func5, Tryd.ntmps5
  go_upto_region 1 with fail
  generalize w.alloc (.cells #[.slice A1 n1 c1, .slice A2 n2 c2, .slice A3 n3 c3, .slice A4 n4 c4] paT) = W at *
  have p0 : W.cell? ⟨w.heap.size, 0, none⟩ = some (.slice A1 n1 c1) := hb0.cell 0
  have p1 : W.cell? ⟨w.heap.size, 1, none⟩ = some (.slice A2 n2 c2) := hb0.cell 1
  have p2 : W.cell? ⟨w.heap.size, 2, none⟩ = some (.slice A3 n3 c3) := hb0.cell 2
  have p3 : W.cell? ⟨w.heap.size, 3, none⟩ = some (.slice A4 n4 c4) := hb0.cell 3
  clear hb0
  go_wp2_with fail
  refine (HOB.out _ HX0.out).mono ?_
  rintro e w1 ⟨v, rfl, ho1, hx1⟩
  obtain ⟨B1, m1, d1, B2, m2, d2, B3, m3, d3, B4, m4, d4⟩ := v
  have HO1 := hide (ho1.rd.ext ((Ext.refl w1).alloc (.cells #[.slice B1 m1 d1, .slice B2 m2 d2, .slice B3 m3 d3, .slice B4 m4 d4] obT)))
  have HX1 := hide ((HX0.out.trans hx1).alloc (.cells #[.slice B1 m1 d1, .slice B2 m2 d2, .slice B3 m3 d3, .slice B4 m4 d4] obT))
  have hb1 := Blk.new w1 obT #[.slice B1 m1 d1, .slice B2 m2 d2, .slice B3 m3 d3, .slice B4 m4 d4]
  clear p0 p1 p2 p3 ho1 hx1 HX0 HOB
  simp only [ObV.cells]
  go_upto_region 2 with fail
  generalize w1.alloc (.cells #[.slice B1 m1 d1, .slice B2 m2 d2, .slice B3 m3 d3, .slice B4 m4 d4] obT) = W1 at *
  generalize w1.heap.size = g1 at *
  have HB1 := hide hb1
  have p0 : W1.cell? ⟨g1, 0, none⟩ = some (.slice B1 m1 d1) := hb1.cell 0
  have p1 : W1.cell? ⟨g1, 1, none⟩ = some (.slice B2 m2 d2) := hb1.cell 1
  have p2 : W1.cell? ⟨g1, 2, none⟩ = some (.slice B3 m3 d3) := hb1.cell 2
  have p3 : W1.cell? ⟨g1, 3, none⟩ = some (.slice B4 m4 d4) := hb1.cell 3
  have HEN := hide (encode_ok HOK.out HSM.out HO1.out)
  clear hb1
  go_wp2_with fail
  refine HEN.out.mono ?_
  rintro e w2 ⟨A, n, c, rfl, hn, ho2, hx2⟩
  have hnc := own_le ho2
  have HDE := hide (decode_back HOK.out HSM.out (Reads.of_own ho2) hnc.1 hnc.2)
  have HX2 := hide (HX1.out.trans hx2)
  have HO2 := hide (HO1.out.ext hx2)
  have HB2 := hide (HB1.out.ext hx2)
  have hn11 : 11 ≤ n := by rw [hn]; exact HL.out
  have hn5 : n ≤ 5000 := by rw [hn]; exact HLE.out
  clear p0 p1 p2 p3 ho2 hx2 hn HX1 HO1 HB1 HEN hnc
  go_wp2_with fail
  refine HDE.out.mono ?_
  rintro e w3 ⟨u, rfl, ho3, hx3⟩
  obtain ⟨C1, k1, f1, C2, k2, f2, C3, k3, f3, C4, k4, f4⟩ := u
  have hbu := Blk.new w3 obT #[.slice C1 k1 f1, .slice C2 k2 f2, .slice C3 k3 f3, .slice C4 k4 f4]
  have hxu := (Ext.refl w3).alloc (.cells #[.slice C1 k1 f1, .slice C2 k2 f2, .slice C3 k3 f3, .slice C4 k4 f4] obT)
  have HSA := hide (same_any o _ _ _ ((HO2.out.ext hx3).ext hxu) (ho3.rd.ext hxu) HSM.out)
  have HX3 := hide ((HX2.out.trans hx3).trans hxu)
  have HB3 := hide ((HB2.out.ext hx3).ext hxu)
  clear ho3 hx3 hxu HX2 HO2 HB2 HDE
  simp only [ObV.cells]
  go_upto_region 4 with fail
  generalize w3.alloc (.cells #[.slice C1 k1 f1, .slice C2 k2 f2, .slice C3 k3 f3, .slice C4 k4 f4] obT) = W3 at *
  generalize w3.heap.size = g3 at *
  have p0 : W3.cell? ⟨g1, 0, none⟩ = some (.slice B1 m1 d1) := HB3.out.cell 0
  have p1 : W3.cell? ⟨g1, 1, none⟩ = some (.slice B2 m2 d2) := HB3.out.cell 1
  have p2 : W3.cell? ⟨g1, 2, none⟩ = some (.slice B3 m3 d3) := HB3.out.cell 2
  have p3 : W3.cell? ⟨g1, 3, none⟩ = some (.slice B4 m4 d4) := HB3.out.cell 3
  have q0 : W3.cell? ⟨g3, 0, none⟩ = some (.slice C1 k1 f1) := hbu.cell 0
  have q1 : W3.cell? ⟨g3, 1, none⟩ = some (.slice C2 k2 f2) := hbu.cell 1
  have q2 : W3.cell? ⟨g3, 2, none⟩ = some (.slice C3 k3 f3) := hbu.cell 2
  have q3 : W3.cell? ⟨g3, 3, none⟩ = some (.slice C4 k4 f4) := hbu.cell 3
  clear hbu
  go_wp2_with fail
  refine HSA.out.mono ?_
  rintro e w4 ⟨rfl, hx4⟩
  go_wp2_with fail
  go_ret
  exact ⟨rfl, HX3.out.trans hx4⟩
end Go.Proofs.YtekijkdgmfdnbaaDoor
