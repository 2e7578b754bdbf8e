/- The walk of ObjTurned. -/
import Derived.Test.YtekijkdgmfdnbaaDoorObPart
import Derived.Test.YtekijkdgmfdnbaaDoorRest
import Derived.Lib.EndianBits
import Derived.Laws.BitsAllLaws
namespace Go.Proofs.YtekijkdgmfdnbaaDoor
open Go.RowKit
set_option linter.unusedVariables false

theorem xor_any (a b : UInt8) : ∃ x' : UInt8, bits .xor .u8 (a.toNat : Int) (b.toNat : Int) = (x'.toNat : Int) := by
  have hx := Nat.xor_lt_two_pow (n := 8) (x := a.toNat) (y := b.toNat) a.toNat_lt b.toNat_lt
  exact ⟨UInt8.ofNat (a.toNat ^^^ b.toNat), by rw [u8_xor_nat a.toNat b.toNat a.toNat_lt b.toNat_lt, UInt8.toNat_ofNat', Nat.mod_eq_of_lt hx]⟩
theorem bytesV_set (bs : List UInt8) (i : Nat) (x : UInt8) : (bytesV bs).set i (.int .u8 (x.toNat : Int)) = bytesV (bs.set i x) := by
  simp [bytesV, List.map_set]
theorem decIs_some {b : Bs} {o : ObD} {z : Int} (h : DecIs b (some o) z) : ChkOk o ∧ encL o = b := by
  cases h with
  | ok h1 h2 h3 => exact ⟨h2, h3⟩
theorem decIs_none {b : Bs} {z : Int} (h : DecIs b none z) : z = 3 ∨ z = 21 := by
  cases h with
  | form => exact .inl rfl
  | short => exact .inr rfl
set_option maxHeartbeats 8000000 in
set_option maxRecDepth 100000 in
theorem oturn_walk (A1 : Option Addr) (n1 c1 : Nat) (A2 : Option Addr) (n2 c2 : Nat) (A3 : Option Addr) (n3 c3 : Nat) (A4 : Option Addr) (n4 c4 : Nat) (code : List Nat) (data : Bs) (nms nds : List Int) (z : Int) (x : UInt8) (w : World) (h : PartRd w ⟨A1, n1, c1, A2, n2, c2, A3, n3, c3, A4, n4, c4⟩ code data nms nds) (hz1 : -9223372036854775808 ≤ z) (hz2 : z ≤ 9223372036854775807) :
    Calls Tryd.prog 4 #[.agg #[.slice A1 n1 c1, .slice A2 n2 c2, .slice A3 n3 c3, .slice A4 n4 c4], .int .i64 z, .int .u8 (x.toNat : Int)] w fun e w' => e = .returned (.bool true) ∧ Ext w w' := by
  have HOK := hide (objR_ok code data nms nds)
  have HSM := hide (chk_sm (objR_ok code data nms nds) (objR_word h.word data nms nds))
  have HL := hide (enc_len (objR code data nms nds))
  have HLE := hide (enc_le (objR_ok code data nms nds))
  have HOB := hide (fun (W : World) (hx : Ext w W) => object_ok (h.ext hx))
  generalize objR code data nms nds = o at *
  have HX0 := hide ((Ext.refl w).alloc (.cells #[.slice A1 n1 c1, .slice A2 n2 c2, .slice A3 n3 c3, .slice A4 n4 c4] paT))
  have hb0 := Blk.new w paT #[.slice A1 n1 c1, .slice A2 n2 c2, .slice A3 n3 c3, .slice A4 n4 c4]
  clear h
  have hxb := x.toNat_lt
  go_enter Tryd.func4, Tryd.ntmps4
  go_upto_region 1 with fail
  generalize w.alloc (.cells #[.slice A1 n1 c1, .slice A2 n2 c2, .slice A3 n3 c3, .slice A4 n4 c4] paT) = W at *
  have p0 : W.cell? ⟨w.heap.size, 0, none⟩ = some (.slice A1 n1 c1) := hb0.cell 0
  have p1 : W.cell? ⟨w.heap.size, 1, none⟩ = some (.slice A2 n2 c2) := hb0.cell 1
  have p2 : W.cell? ⟨w.heap.size, 2, none⟩ = some (.slice A3 n3 c3) := hb0.cell 2
  have p3 : W.cell? ⟨w.heap.size, 3, none⟩ = some (.slice A4 n4 c4) := hb0.cell 3
  clear hb0
  go_wp2_with fail
  refine (HOB.out _ HX0.out).mono ?_
  rintro e w1 ⟨v, rfl, ho1, hx1⟩
  have HEN := hide (encode_ok HOK.out HSM.out ho1.rd)
  have HX1 := hide (HX0.out.trans hx1)
  clear p0 p1 p2 p3 ho1 hx1 HX0 HOB
  go_wp2_with fail
  refine HEN.out.mono ?_
  rintro e w2 ⟨A, n, c, rfl, hn, ho2, hx2⟩
  have hn11 : 11 ≤ n := by rw [hn]; exact HL.out
  have hn5 : n ≤ 5000 := by rw [hn]; exact HLE.out
  obtain ⟨g, rfl, hg1, hg2, hg3, hg4⟩ := own_addr ho2 (by omega)
  have HX2 := hide (HX1.out.trans hx2)
  have hwg : w.heap.size ≤ g := Nat.le_trans HX1.out.size hg1
  have HO2 := hide ho2
  clear hx2 HX1 HEN HL HLE
  obtain ⟨bs, hbs⟩ : ∃ bs, encL o = bs := ⟨_, rfl⟩
  rw [hbs] at hn HO2
  have HN := hide hn
  have hr1 := restZ_lo z n (by omega)
  have hr2 := restZ_hi z n (by omega)
  have HRS := hide (rest_any z n w2 hz1 hz2 (by omega) (by omega))
  obtain ⟨k, hk⟩ : ∃ k : Nat, restZ z n = (k : Int) := ⟨(restZ z n).toNat, by omega⟩
  rw [hk] at hr1 hr2 HRS
  have hkn : k < n := by omega
  have q3 := cells_of (Reads.of_own HO2.out) k hkn
  rw [Nat.zero_add] at q3
  have f3 := HO2.out.frozenAt k
  have hbi := (bs.getD k 0).toNat_lt
  obtain ⟨x', he⟩ := xor_any (bs.getD k 0) x
  have ho5 := (HO2.out.stored k (.int .u8 (x'.toNat : Int))).1
  rw [bytesV_set] at ho5
  have HO5 := hide ho5
  have HX5 := hide (HX2.out.setCell (p := ⟨g, k, none⟩) hwg (.int .u8 (x'.toNat : Int)))
  clear hk hr1 hr2 hbs hn ho2 ho5 HOK HSM
  generalize (bs.getD k 0).toNat = y at *
  generalize x.toNat = xn at *
  go_wp2_with fail
  refine HRS.out.mono ?_
  rintro e w3 ⟨rfl, rfl⟩
  go_upto_region 5 with fail
  have hbl : (bs.set k x').length = n := by rw [List.length_set, HN.out]
  generalize w2.setCell ⟨g, k, none⟩ (.int .u8 (x'.toNat : Int)) = W5 at *
  generalize bs.set k x' = bs' at *
  have HR5 := hide (Reads.of_own HO5.out)
  have HDE := hide (decode_any bs' (some ⟨g, 0, none⟩) n c W5 HR5.out hg3 hg4)
  have h64 := hg4
  unfold maxLen at h64
  clear q3 f3 he hbi hxb HRS HO5 HO2
  go_wp2_with fail
  refine HDE.out.mono ?_
  rintro e w6 ⟨hx6, ⟨z6, hd, rfl⟩ | ⟨o', u, hd, hsm, rfl, ho6⟩⟩
  · have hz6 := decIs_none hd
    have t1 : (z6 != 0) = true := by rcases hz6 with rfl | rfl <;> rfl
    have hb6 := Blk.new w6 obT #[.slice none 0 0, .slice none 0 0, .slice none 0 0, .slice none 0 0]
    have HX6 := hide ((HX5.out.trans hx6).alloc (.cells #[.slice none 0 0, .slice none 0 0, .slice none 0 0, .slice none 0 0] obT))
    clear hd hx6 HDE HR5 HX5
    go_upto_region 6 with fail
    generalize w6.alloc (.cells #[.slice none 0 0, .slice none 0 0, .slice none 0 0, .slice none 0 0] obT) = W6 at *
    generalize w6.heap.size = g6 at *
    have p0 : W6.cell? ⟨g6, 0, none⟩ = some (.slice none 0 0) := hb6.cell 0
    have p2 : W6.cell? ⟨g6, 2, none⟩ = some (.slice none 0 0) := hb6.cell 2
    clear hb6
    rcases hz6 with rfl | rfl
    all_goals
      clear t1
      go_wp2_with fail
      go_ret
      exact ⟨rfl, HX6.out⟩
  · obtain ⟨hok, henc⟩ := decIs_some hd
    obtain ⟨C1, k1, f1, C2, k2, f2, C3, k3, f3, C4, k4, f4⟩ := u
    have hxu := (Ext.refl w6).alloc (.cells #[.slice C1 k1 f1, .slice C2 k2 f2, .slice C3 k3 f3, .slice C4 k4 f4] obT)
    have hb6 := Blk.new w6 obT #[.slice C1 k1 f1, .slice C2 k2 f2, .slice C3 k3 f3, .slice C4 k4 f4]
    have HEN := hide (encode_ok hok hsm (ho6.rd.ext hxu))
    rw [henc] at HEN
    have HX6 := hide ((HX5.out.trans hx6).trans hxu)
    have HZ6 := (hx6.trans hxu).size
    have HR6 := hide ((hx6.trans hxu).reads HR5.out (Nat.le_refl _))
    clear hd hx6 HDE HR5 HX5 ho6 hxu hok henc
    simp only [ObV.cells]
    go_upto_region 6 with fail
    generalize w6.alloc (.cells #[.slice C1 k1 f1, .slice C2 k2 f2, .slice C3 k3 f3, .slice C4 k4 f4] obT) = W6 at *
    generalize w6.heap.size = g6 at *
    have p0 : W6.cell? ⟨g6, 0, none⟩ = some (.slice C1 k1 f1) := hb6.cell 0
    have p1 : W6.cell? ⟨g6, 1, none⟩ = some (.slice C2 k2 f2) := hb6.cell 1
    have p2 : W6.cell? ⟨g6, 2, none⟩ = some (.slice C3 k3 f3) := hb6.cell 2
    have p3 : W6.cell? ⟨g6, 3, none⟩ = some (.slice C4 k4 f4) := hb6.cell 3
    clear hb6
    go_wp2_with fail
    refine HEN.out.mono ?_
    rintro e w7 ⟨A7, n7, c7, rfl, hn7, ho7, hx7⟩
    have hnn : n7 = n := by rw [hn7, hbl]
    clear hn7 hbl
    subst hnn
    have hcv := conv_str' (P := Tryd.prog) (src := 23) (dst := 9) Tryd.underlying23 Tryd.underlying5 Tryd.underlying9 (hx7.reads HR6.out HZ6) c
    have hcu := conv_str' (P := Tryd.prog) (src := 23) (dst := 9) Tryd.underlying23 Tryd.underlying5 Tryd.underlying9 (Reads.of_own ho7) c7
    have HX7 := hide (HX6.out.trans hx7)
    generalize str bs' = ss at *
    clear p0 p1 p2 p3 hx7 ho7 HR6 HX6 HEN
    go_wp2_with fail
    go_ret
    exact ⟨rfl, HX7.out⟩
end Go.Proofs.YtekijkdgmfdnbaaDoor
