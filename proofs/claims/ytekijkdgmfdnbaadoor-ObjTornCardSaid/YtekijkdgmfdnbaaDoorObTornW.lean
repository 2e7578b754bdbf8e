/- The walk of ObjTorn. -/
import Derived.Test.YtekijkdgmfdnbaaDoorObPart
import Derived.Test.YtekijkdgmfdnbaaDoorBytesK
import Derived.Test.YtekijkdgmfdnbaaDoorRest
namespace Go.Proofs.YtekijkdgmfdnbaaDoor
open Go.RowKit
set_option linter.unusedVariables false

set_option maxHeartbeats 8000000 in
set_option maxRecDepth 100000 in
theorem otorn_walk (A1 : Option Addr) (n1 c1 : Nat) (A2 : Option Addr) (n2 c2 : Nat) (A3 : Option Addr) (n3 c3 : Nat) (A4 : Option Addr) (n4 c4 : Nat) (code : List Nat) (data : Bs) (nms nds : List Int) (z : Int) (x : UInt8) (w : World) (h : PartRd w ⟨A1, n1, c1, A2, n2, c2, A3, n3, c3, A4, n4, c4⟩ code data nms nds) (hz1 : -9223372036854775808 ≤ z) (hz2 : z ≤ 9223372036854775807) :
    Calls Tryd.prog 3 #[.agg #[.slice A1 n1 c1, .slice A2 n2 c2, .slice A3 n3 c3, .slice A4 n4 c4], .int .i64 z, .int .u8 (x.toNat : Int)] w fun e w' => e = .returned (.bool true) ∧ Ext w w' := by
  have HOK := hide (objR_ok code data nms nds)
  have HSM := hide (chk_sm (objR_ok code data nms nds) (objR_word h.word data nms nds))
  have HL := hide (enc_len (objR code data nms nds))
  have HLE := hide (enc_le (objR_ok code data nms nds))
  have HOB := hide (fun (W : World) (hx : Ext w W) => object_ok (h.ext hx))
  generalize objR code data nms nds = o at *
  have HX0 := hide ((Ext.refl w).alloc (.cells #[.slice A1 n1 c1, .slice A2 n2 c2, .slice A3 n3 c3, .slice A4 n4 c4] paT))
  have hb0 := Blk.new w paT #[.slice A1 n1 c1, .slice A2 n2 c2, .slice A3 n3 c3, .slice A4 n4 c4]
  obtain ⟨xz, hxz⟩ : ∃ xz : Int, (x.toNat : Int) = xz := ⟨_, rfl⟩
  have HXZ := hide hxz
  rw [hxz]
  clear h hxz
  go_enter Tryd.func3, Tryd.ntmps3
  go_upto_region 1 with fail
  generalize w.alloc (.cells #[.slice A1 n1 c1, .slice A2 n2 c2, .slice A3 n3 c3, .slice A4 n4 c4] paT) = W at *
  have p0 : W.cell? ⟨w.heap.size, 0, none⟩ = some (.slice A1 n1 c1) := hb0.cell 0
  have p1 : W.cell? ⟨w.heap.size, 1, none⟩ = some (.slice A2 n2 c2) := hb0.cell 1
  have p2 : W.cell? ⟨w.heap.size, 2, none⟩ = some (.slice A3 n3 c3) := hb0.cell 2
  have p3 : W.cell? ⟨w.heap.size, 3, none⟩ = some (.slice A4 n4 c4) := hb0.cell 3
  clear hb0
  go_wp2_with fail
  refine (HOB.out _ HX0.out).mono ?_
  rintro e w1 ⟨v, rfl, ho1, hx1⟩
  have HEN := hide (encode_ok HOK.out HSM.out ho1.rd)
  have HX1 := hide (HX0.out.trans hx1)
  clear p0 p1 p2 p3 ho1 hx1 HX0 HOB
  go_wp2_with fail
  refine HEN.out.mono ?_
  rintro e w2 ⟨A, n, c, rfl, hn, ho2, hx2⟩
  have hnc := own_le ho2
  obtain ⟨hnc1, hnc2⟩ := hnc
  have HX2 := hide (HX1.out.trans hx2)
  have HO2 := hide (Reads.of_own ho2)
  have HN := hide hn
  have hn11 : 11 ≤ n := by rw [hn]; exact HL.out
  have hn5 : n ≤ 5000 := by rw [hn]; exact HLE.out
  clear ho2 hx2 hn HX1 HEN
  have hr1 := restZ_lo z n (by omega)
  have hr2 := restZ_hi z n (by omega)
  have HRS := hide (rest_any z n w2 hz1 hz2 (by omega) (by omega))
  obtain ⟨k, hk⟩ : ∃ k : Nat, restZ z n = (k : Int) := ⟨(restZ z n).toNat, by omega⟩
  rw [hk] at hr1 hr2 HRS
  have hkn : k < n := by omega
  obtain ⟨i0, hi0, hz0, hz11, hz22⟩ := info_parts u8_info'
  have hs1 := fun W : World => cut_hi' Tryd.underlying23 hi0 hz11 A n c (k : Int) k rfl (by omega) .i64 W
  have hT := HO2.out.take (k := k) (by omega)
  rw [bytesV_take] at hT
  have HDT := hide (decode_torn HOK.out HSM.out (by rw [← HN.out]; exact hkn) hT (show k ≤ c by omega) hnc2)
  clear hT hk hr1 hr2
  go_wp2_with fail
  refine HRS.out.mono ?_
  rintro e w3 ⟨rfl, rfl⟩
  go_wp2_with fail
  clear hs1 HRS
  refine HDT.out.mono ?_
  rintro e w4 ⟨z4, hz4, rfl, hx4⟩
  have HX5 := hide (hx4.alloc (.cells #[.slice none 0 0, .slice none 0 0, .slice none 0 0, .slice none 0 0] obT))
  have HX6 := hide (HX2.out.trans HX5.out)
  have HR5 := hide (HX5.out.reads HO2.out (Nat.le_refl _))
  clear hx4 HDT
  go_upto_region 5 with fail
  have hsz := HX5.out.size
  generalize w4.alloc (.cells #[.slice none 0 0, .slice none 0 0, .slice none 0 0, .slice none 0 0] obT) = W5 at *
  clear HX5 HX2
  have HCL := hide (bclone_any A n c w2.heap.size _ W5 HR5.out (bytesV_one _) hsz (by omega) (fun hA => by
    obtain ⟨b, o, h, -⟩ := HR5.out.at1 (by omega)
    rw [hA] at h
    cases h))
  have HDM := hide (fun (W : World) (A' : Option Addr) (c' : Nat) (hr : W.ownsRow W5.heap.size 5 1 (.slice A' (n + 1) c') (n + 1) (bytesV (encL o) ++ [.int .u8 xz])) => decode_more (w := W) HOK.out HSM.out x (by
      have := Reads.of_own hr
      rw [← HXZ.out] at this
      rw [bytesV_append]
      exact this) (own_le hr).1 (own_le hr).2)
  have HL1 := hide (show n + 1 ≤ maxLen by simp only [maxLen]; omega)
  have HL2 := hide (show (n + 1) * 1 ≤ 140737488355328 by omega)
  go_wp2_with fail
  refine HCL.out.mono ?_
  rintro e w6 ⟨A6, c6, rfl, ho6, hx6⟩
  have HO6 := hide (ho6.alloc (.cells #[.int .u8 xz] 5))
  have HX7 := hide (HX6.out.trans hx6)
  have HX8 := hide ((Ext.refl w6).alloc (.cells #[.int .u8 xz] 5))
  have HRW := hide ((Blk.new w6 5 #[.int .u8 xz]).rowsF 1 1 rfl)
  have HZ := hide (show W5.heap.size ≤ (w6.alloc (.cells #[.int .u8 xz] 5)).heap.size from Nat.le_trans hx6.size HX8.out.size)
  have HZ5 := hide (show w.heap.size ≤ W5.heap.size from HX6.out.size)
  clear ho6 HCL HX6 hx6 HR5 HO2 hsz
  go_wp2_with (at_builtin; refine wpList_append_any _ rfl (.tmp 38) (.tmp 40) 23 rfl W5.heap.size 5 i0 _ 1 1 Tryd.underlying23 hi0 hz0 hz11 hz22 rfl (by decide) (.slice A6 n c6) n (bytesV (encL o)) rfl HO6.out _ _ 1 1 [.int .u8 xz] rfl HRW.out (by simp [Value.oneCell']) HL1.out HL2.out HZ.out ?_; intro A8 c8 w8 ho8 hg8 ha8; have HO8 := hide ho8; have HG8 := hide hg8)
  refine (HDM.out w8 A8 c8 HO8.out).mono ?_
  rintro e w9 ⟨rfl, hx9⟩
  have HX9 := hide ((((HX7.out.trans HX8.out).grown HG8.out (fun k hk => Nat.le_trans HZ5.out (HO6.out.lt k hk).1)).trans hx9).alloc (.cells #[.slice none 0 0, .slice none 0 0, .slice none 0 0, .slice none 0 0] obT))
  clear HDM HO8 hx9 ho8 hg8 ha8
  rcases hz4 with rfl | rfl
  all_goals
    go_wp2_with fail
    go_ret
    exact ⟨rfl, HX9.out⟩
end Go.Proofs.YtekijkdgmfdnbaaDoor
