/- The walk of AsmShown. -/
import Derived.Test.YtikbfmjhmjkkgaaDoorAmShowF
import Derived.Test.YtikbfmjhmjkkgaaDoorAmOpen
import Derived.Test.YtikbfmjhmjkkgaaDoorAmNeedsW
namespace Go.Proofs.YtikbfmjhmjkkgaaDoor
open Go.RowKit
set_option linter.unusedVariables false

def ShRel (w : World) (m : Nat) (l : List Nat) (v3 v19 : Value) (wr : World) : Prop :=
  ∃ (k : Nat) (A3 : Option Addr) (c3 : Nat), k ≤ m ∧ v19 = .int .i64 (k : Int) ∧ v3 = .slice A3 k c3 ∧ wr.ownsRow w.heap.size 9 1 (.slice A3 k c3) k (strsV ((l.take k).map showL)) ∧ Ext w wr
theorem sh_next (l : List Nat) (k : Nat) (h : k < l.length) : (l.take (k + 1)).map showL = (l.take k).map showL ++ [showL l[k]] := by rw [List.take_succ_eq_append_getElem h, List.map_append]; rfl
/-- strings.Join on the lines. -/
theorem join_s (l : List Nat) (A : Option Addr) (k c B : Nat) (w : World) (hr : w.ownsRow B 9 1 (.slice A k c) k (strsV (l.map showL))) (hk : l.length = k) (h40 : k ≤ 40) (hx : ∀ x ∈ l, x ≤ 4294967295) :
    Calls Tryd.prog 9 #[.slice A k c, .string (str [10])] w fun e w' => e = .returned (.string (str (shText l))) ∧ Ext w w' := by
  subst hk
  by_cases h0 : l.length = 0
  · have hq : l = [] := List.eq_nil_of_length_eq_zero h0
    subst hq
    have := Tryd.strings_Join_none A c (str [10]) w
    exact this.mono fun e w' ⟨h1, h2⟩ => ⟨h1, h2 ▸ Ext.refl _⟩
  · obtain ⟨A', c', hv, hnc, -, -⟩ := own_form hr
    injection hv with hA _ hc
    exact join_any (l.map showL) A l.length c w.heap.size w (Reads.of_own hr) (Nat.le_refl _) (by simp) (by omega) (by omega) (Nat.le_trans (shText_len l h40 hx) (by decide)) (by omega)
set_option maxHeartbeats 16000000 in
set_option maxRecDepth 100000 in
theorem shown_walk (A : Option Addr) (n c : Nat) (zs : List Nat) (w : World) (hr : Reads w w.heap.size 1 A n (u32V zs)) (hz : ∀ z ∈ zs, z ≤ 4294967295) (hn : n ≤ c) (hc : c ≤ maxLen) (hL : LibOk w) :
    Calls Tryd.prog 5 #[.slice A n c] w fun e w' => e = .returned (.bool true) ∧ Ext w w' := by
  obtain ⟨i0, hi0, hz0, hz1, hz2⟩ := info_parts string_info
  obtain ⟨m, hm⟩ : ∃ m : Nat, min n 40 = m := ⟨_, rfl⟩
  have hmn : m ≤ n := by omega
  have hm40 : m ≤ 40 := by omega
  have HRM := hide (hr.take hmn)
  rw [show (u32V zs).take m = u32V (zs.take m) by simp [u32V]] at HRM
  have hz' : ∀ z ∈ zs.take m, z ≤ 4294967295 := fun z h => hz z (List.mem_of_mem_take h)
  generalize zs.take m = l at *
  have HZ := hide hz'
  have hmi : min (n : Int) 40 = (m : Int) := by omega
  have hmc : m ≤ c := by omega
  have HLN := hide (show l.length = m from by have := HRM.out.1; rw [u32V_len] at this; omega)
  have HL := hide hL
  unfold maxLen at hc
  clear hr hz hz' hL hm
  go_enter Tryd.func5, Tryd.ntmps5
  go_wp2_with fail
  clear hmi
  go_loopw [3, 19] (ShRel w m l) (fun _ v _ => m - (intOf v).toNat)
  case atStart => exact ⟨0, none, 0, Nat.zero_le _, rfl, rfl, World.ownsRow_nil _ _ _ _, Ext.refl _⟩
  case round =>
    obtain ⟨k, A3, c3, hk, rfl, rfl, ho, hx⟩ := hrel
    have HO := hide ho
    have HX := hide hx
    clear ho hx
    by_cases hlt : k < m
    · have hkl : k < l.length := by rw [HLN.out]; exact hlt
      obtain ⟨b, off, rfl, -, -⟩ := HRM.out.at1 (by omega)
      obtain ⟨z, hzk⟩ : ∃ z, l[k] = z := ⟨_, rfl⟩
      have g1 := HX.out.cell (cells_u32 HRM.out k hlt)
      rw [List.getD_eq_getElem?_getD, List.getElem?_eq_getElem hkl, Option.getD_some, hzk] at g1
      have hzb := HZ.out z (hzk ▸ List.getElem_mem hkl)
      have HTK := hide (sh_next l k hkl)
      rw [hzk] at HTK
      have HSW := hide (show_any z hzb wr (HL.out.ext HX.out))
      clear hkl hzk
      go_wp2_with fail
      refine HSW.out.mono ?_
      rintro e w4 ⟨rfl, hx4⟩
      have HX4 := hide (HX.out.trans hx4)
      have HO4 := hide (hx4.own HO.out)
      have HS1 := hide (Blk.new w4 9 #[.string (str (showL z))]).reads
      have HXA := hide ((Ext.refl w4).alloc (.cells #[.string (str (showL z))] 9))
      clear hx4 g1
      go_wp2_with (at_builtin; refine wpList_append_any _ rfl (.tmp 23) (.tmp 26) 23 rfl w.heap.size 9 i0 _ 1 16 Tryd.underlying23 hi0 hz0 hz1 hz2 rfl (by omega) _ k (strsV ((l.take k).map showL)) rfl (HXA.out.own HO4.out) _ _ 1 1 [.string (str (showL z))] rfl HS1.out (by simp [Value.oneCell']) (by simp only [maxLen]; omega) (by omega) (Nat.le_trans HX4.out.size HXA.out.size) ?_; intro A6 c6 w6 ho6 hg6 ha6; have HO6 := hide ho6; have HX6 := hide ((HX4.out.trans HXA.out).grown hg6 (fun j hj => ((HXA.out.own HO4.out).lt j hj).1)); clear ho6 hg6 ha6)
      go_roundw
      case rel => exact ⟨k + 1, A6, c6, by omega, by go_num, rfl, by rw [HTK.out, strsV_app]; exact HO6.out, HX6.out⟩
      case measure => simp [intOf]; omega
    · obtain rfl : k = m := by omega
      have hta : (l.take k).map showL = l.map showL := by rw [List.take_of_length_le (by rw [HLN.out]; exact Nat.le_refl _)]
      rw [hta] at HO
      have HJ := hide (join_s l A3 k c3 w.heap.size wr HO.out HLN.out hm40 HZ.out)
      have HRD := hide (read_show l (by rw [HLN.out]; exact hm40) HZ.out)
      have HTL := hide (shText_len l (by rw [HLN.out]; exact hm40) HZ.out)
      clear hta hlt
      go_wp2_with fail
      refine HJ.out.mono ?_
      rintro e w1 ⟨rfl, hx1⟩
      have HX1 := hide (HX.out.trans hx1)
      have HRE := hide (read_any (shText l) w1 HTL.out (HL.out.ext HX1.out))
      rw [HRD.out.1] at HRE
      clear hx1
      go_wp2_with fail
      refine HRE.out.mono ?_
      rintro e w2 ⟨B1, d1, B2, d2, B3, d3, rfl, hr1, hr2, hr3, hx2⟩
      rw [HRD.out.2] at hr1 hr2 hr3
      rw [HRD.out.2]
      dsimp only at hr1 hr2 hr3 ⊢
      rw [HLN.out] at hr1 ⊢
      have HR1 := hide hr1
      have HX2 := hide (HX1.out.trans hx2)
      clear hr1 hr2 hr3 hx2
      go_upto_region 9 with fail
      have HB3 := hide (Blk.new w2 unT #[.slice B1 k d1, .slice B2 0 d2, .slice B3 0 d3])
      have HXA := hide ((Ext.refl w2).alloc (.cells #[.slice B1 k d1, .slice B2 0 d2, .slice B3 0 d3] unT))
      generalize w2.alloc (.cells #[.slice B1 k d1, .slice B2 0 d2, .slice B3 0 d3] unT) = w3 at *
      obtain ⟨g3, hg3⟩ : ∃ x, w2.heap.size = x := ⟨_, rfl⟩
      rw [hg3] at HB3 ⊢
      clear hg3
      have HRD2 := hide (read_any setB w3 (by decide) (HL.out.ext (HX2.out.trans HXA.out)))
      rw [read_set.1] at HRD2
      go_wp2_with fail
      refine HRD2.out.mono ?_
      rintro e w4 ⟨C1, e1, C2, e2, C3, e3, rfl, hs1, hs2, hs3, hx4⟩
      rw [read_set.2] at hs1 hs2 hs3
      rw [read_set.2]
      dsimp only at hs1 hs2 hs3 ⊢
      have l1 : ([34603013] : List Nat).length = 1 := rfl
      have l2 : ([] : List (Bs × Nat)).length = 0 := rfl
      have l3 : ([] : List (Nat × Bs × Nat)).length = 0 := rfl
      rw [l1] at hs1
      rw [l1, l2, l3]
      have HX4 := hide (HX2.out.trans (HXA.out.trans hx4))
      have HB4 := hide (HB3.out.ext hx4)
      have HR14 := hide (hx4.own (HXA.out.own HR1.out))
      have HS4 := hide hs1
      clear hs1 hs2 hs3 hx4 l1 l2 l3
      go_upto_region 10 with fail
      have HB5 := hide (Blk.new w4 unT #[.slice C1 1 e1, .slice C2 0 e2, .slice C3 0 e3])
      have HXC := hide ((Ext.refl w4).alloc (.cells #[.slice C1 1 e1, .slice C2 0 e2, .slice C3 0 e3] unT))
      generalize w4.alloc (.cells #[.slice C1 1 e1, .slice C2 0 e2, .slice C3 0 e3] unT) = w5 at *
      obtain ⟨g5, hg5⟩ : ∃ x, w4.heap.size = x := ⟨_, rfl⟩
      rw [hg5] at HB5 ⊢
      clear hg5
      have hs5 := HXC.out.own HS4.out
      obtain ⟨g1, rfl, hg1⟩ := own_addrA hs5 (by omega)
      have hcc := (own_cell hs5 0 (u := .int .u32 (34603013 : Int)) (by rfl)).1
      have HX5 := hide (HX4.out.trans HXC.out)
      have hb35 := HB4.out.ext HXC.out
      have y0 := hb35.cell 0
      have y1 := hb35.cell 1
      have y2 := hb35.cell 2
      have x0 := HB5.out.cell 0
      have HRI := hide (HX5.out.reads HRM.out (Nat.le_refl _))
      have HEQ := hide (equal_u32 B1 k d1 w5.heap.size l A c w.heap.size w5 (Reads.of_own (HXC.out.own HR14.out)) HRI.out (by omega))
      have HB35 := hide hb35
      clear hb35 hs5 hg1
      go_wp2_with fail
      refine HEQ.out.mono ?_
      rintro e w6 ⟨rfl, nd, rfl⟩
      have HXF := hide (HX5.out.drewN nd)
      have hb36 := HB35.out.ext ((Ext.refl w5).drewN nd)
      have z1 := hb36.cell 1
      have z2 := hb36.cell 2
      generalize w5.drewN nd = w7 at *
      clear hb36
      go_wp2_with fail
      go_ret
      exact ⟨by simp, HXF.out⟩
end Go.Proofs.YtikbfmjhmjkkgaaDoor
