/- The contract of bind.clone. -/
import Derived.Test.YtljlniehbenefaaDoorBdLackP
import Derived.Test.YtljlniehbenefaaDoorBdObjs
import Derived.Test.YtljlniehbenefaaDoorBdWords
import Derived.Test.YtljlniehbenefaaDoorBdBytes
namespace Go.Proofs.YtljlniehbenefaaDoor
open Go.RowKit
set_option linter.unusedVariables false

theorem keep4 {w : World} {g : Nat} {t : TypeId} {a b c d : Value} (h : Blk w g t #[a, b, c, d]) : w.cell? ⟨g, 0, none⟩ = some a ∧ w.cell? ⟨g, 1, none⟩ = some b ∧ w.cell? ⟨g, 2, none⟩ = some c ∧ w.cell? ⟨g, 3, none⟩ = some d := ⟨h.cell 0, h.cell 1, h.cell 2, h.cell 3⟩
theorem ext_none {a w w' : World} (h : Ext a w) (hg : w.grownBy w' (Value.ownBlock (.slice none 0 0))) : Ext a w' := h.grown hg (fun k hk => by cases hk)
def ClRel (w : World) (ps : List ObX) (v3 v11 : Value) (wr : World) : Prop :=
  ∃ (k : Nat) (acc : List ObX) (A : Option Addr) (c : Nat), k ≤ ps.length ∧ v11 = .int .i64 k ∧ v3 = .slice A acc.length c ∧ acc.map Prod.fst = (ps.take k).map Prod.fst ∧ ObsSt w acc A c wr
set_option maxHeartbeats 16000000 in
set_option maxRecDepth 100000 in
theorem clone_any (A : Option Addr) (n c : Nat) (ps : List ObX) (w : World) (h : Good w A n ps) (hn : n ≤ 12) :
    Calls Tryd.prog 26 #[.slice A n c] w fun e w' => ∃ acc A' c', e = .returned (.slice A' (List.length acc) c') ∧ acc.map Prod.fst = ps.map Prod.fst ∧ ObsSt w acc A' c' w' := by
  obtain ⟨i0, hi0, hz0, hz1, hz2⟩ := info_parts ob_info
  obtain ⟨i1, hi1, hy0, hy1, hy2⟩ := info_parts u32_info'
  obtain ⟨i2, hi2, hx0, hx1, hx2⟩ := info_parts u8_info2
  obtain ⟨i3, hi3, hv0, hv1, hv2⟩ := info_parts nm_info
  obtain ⟨i4, hi4, hu0, hu1, hu2⟩ := info_parts ne_info
  have HG := hide h
  have hpl := h.len
  obtain ⟨W0, hmk, hown, hgr⟩ := run_makeSlice_owned (P := Tryd.prog) (w := w) w.heap.size 23 obT i0 _ 4 Tryd.underlying23 hi0 hz0 hz1 .i64 .i64 n (by omega) (by rw [hz2]; omega) (by simp only [maxLen]; omega) (Nat.le_refl _)
  have HST0 := hide (show ObsSt w [] (some ⟨w.heap.size, 0, none⟩) n W0 from ⟨hown, fun p hp => (by cases hp), (Ext.refl w).grown hgr (fun k hk => by cases hk)⟩)
  clear h hown hgr
  go_enter Tryd.func26, Tryd.ntmps26
  go_wp2_with fail
  clear hmk
  go_loopw [3, 11] (ClRel w ps) (fun _ i _ => n - (intOf i).toNat)
  case atStart => exact ⟨0, [], _, n, Nat.zero_le _, rfl, rfl, rfl, HST0.out⟩
  case round =>
    obtain ⟨k, acc, A3, c3, hk, rfl, rfl, hacc, hst⟩ := hrel
    have HST := hide hst
    have HACC := hide hacc
    have hal : acc.length ≤ 12 := by
      have := congrArg List.length hacc
      rw [List.length_map, List.length_map, List.length_take] at this
      omega
    clear hst hacc HST0
    by_cases hlt : k < n
    · obtain ⟨b, off, o, v, hi', rfl, hpi, hrd, hck, hsm, q0, q1, q2, q3⟩ := (HG.out.ext HST.out.ext).at_ k hlt
      obtain ⟨A1, n1, c1, A2, n2, c2, B3, n3, d3, A4, n4, c4⟩ := v
      have HTK := hide (show (ps.take (k + 1)).map Prod.fst = (ps.take k).map Prod.fst ++ [o] by rw [List.take_succ_eq_append_getElem hi', List.map_append, hpi]; rfl)
      dsimp only at q0 q1 q2 q3
      have hb0 := Blk.new wr obT #[.slice A1 n1 c1, .slice A2 n2 c2, .slice B3 n3 d3, .slice A4 n4 c4]
      have hxa := (Ext.refl wr).alloc (.cells #[.slice A1 n1 c1, .slice A2 n2 c2, .slice B3 n3 d3, .slice A4 n4 c4] obT)
      have HRD := hide (hrd.ext hxa)
      have HST1 := hide (HST.out.to hxa)
      have HNE := hide (show some wr.heap.size ≠ Value.ownBlock (.slice A3 acc.length c3) from fun e => by have := (HST.out.row.lt _ e.symm).2; omega)
      have hn1 : n1 ≤ 128 := by have := hck.code; have := hrd.l1; dsimp only at this; omega
      have hn2 : n2 ≤ 256 := by have := hck.data; have := hrd.l2; dsimp only at this; omega
      have hn3 : n3 ≤ 24 := by have := hck.nms; have := hrd.l3; dsimp only at this; omega
      have hn4 : n4 ≤ 40 := by have := hck.nds; have := hrd.l4; dsimp only at this; omega
      clear hrd hck hsm hpi hxa HST
      go_upto_region 5 with fail
      generalize wr.alloc (.cells #[.slice A1 n1 c1, .slice A2 n2 c2, .slice B3 n3 d3, .slice A4 n4 c4] obT) = W at *
      generalize wr.heap.size = gb at *
      clear q0 q1 q2 q3
      have hb : Blk W.drew gb obT #[.slice A1 n1 c1, .slice A2 n2 c2, .slice B3 n3 d3, .slice A4 n4 c4] := hb0.drew
      have HXD := hide ((Ext.refl W).drew)
      have HLE := hide (show w.heap.size ≤ W.heap.size from HST1.out.ext.size)
      have HL1 := hide (show acc.length + 1 ≤ maxLen by simp only [maxLen]; omega)
      have HL2 := hide (show (acc.length + 1) * 96 ≤ 140737488355328 by omega)
      have HM1 := hide (show 0 + n1 ≤ maxLen by simp only [maxLen]; omega)
      have HM2 := hide (show 0 + n2 ≤ maxLen by simp only [maxLen]; omega)
      have HM3 := hide (show 0 + n3 ≤ maxLen by simp only [maxLen]; omega)
      have HM4 := hide (show 0 + n4 ≤ maxLen by simp only [maxLen]; omega)
      have HN1 := hide (show (0 + n1) * 4 ≤ 140737488355328 by omega)
      have HN2 := hide (show (0 + n2) * 1 ≤ 140737488355328 by omega)
      have HN3 := hide (show (0 + n3) * 40 ≤ 140737488355328 by omega)
      have HN4 := hide (show (0 + n4) * 32 ≤ 140737488355328 by omega)
      go_region_held3 (fun w' => w'.cell? ⟨gb, 0, none⟩ = some (.slice A1 n1 c1) ∧ w'.cell? ⟨gb, 1, none⟩ = some (.slice A2 n2 c2) ∧ w'.cell? ⟨gb, 2, none⟩ = some (.slice B3 n3 d3) ∧ w'.cell? ⟨gb, 3, none⟩ = some (.slice A4 n4 c4))
        (first | exact keep4 hb | exact keep4 hb5 | exact keep4 hb6 | exact keep4 hb7 | exact keep4 hb8 | exact keep4 (hb8.alloc _) | exact keep4 hb9 | fail)
        (first
          | (refine step_append_any _ (by rfl) (.const (.slice none 0 0)) (.tmp 17) 32 (by rfl) w.heap.size 31 i1 _ 1 4 Tryd.underlying32 hi1 hy0 hy1 hy2 rfl (by decide) (.slice none 0 0) 0 [] (by rfl) (World.ownsRow_nil _ _ _ _) _ A1 n1 c1 (codeV o.code) (by rfl) (HXD.out.reads HRD.out.code (Nat.le_refl _)) (codeV_one _) HM1.out HN1.out (Nat.le_trans HLE.out HXD.out.size) ?_; intro A5 c5 w5 ho5 hg5 ha5; have HX5 := hide (ext_none HXD.out hg5); rw [Nat.zero_add] at ho5; have HO5 := hide ho5; have hb5 := hb.ext (ext_none (Ext.refl _) hg5); clear ho5 hg5 ha5)
          | (refine step_append_any _ (by rfl) (.const (.slice none 0 0)) (.tmp 20) 36 (by rfl) w.heap.size 5 i2 _ 1 1 Tryd.underlying36 hi2 hx0 hx1 hx2 rfl (by decide) (.slice none 0 0) 0 [] (by rfl) (World.ownsRow_nil _ _ _ _) _ A2 n2 c2 (bytesV o.data) (by rfl) (HX5.out.reads HRD.out.data (Nat.le_refl _)) (bytesV_one _) HM2.out HN2.out (Nat.le_trans HLE.out HX5.out.size) ?_; intro A6 c6 w6 ho6 hg6 ha6; have HX6 := hide (ext_none HX5.out hg6); rw [Nat.zero_add] at ho6; have HO6 := hide ho6; have hb6 := hb5.ext (ext_none (Ext.refl _) hg6); have HY6 := hide (ext_none (Ext.refl w5) hg6); clear ho6 hg6 ha6)
          | (refine step_append_any _ (by rfl) (.const (.slice none 0 0)) (.tmp 23) 37 (by rfl) w.heap.size nmT i3 _ 4 40 Tryd.underlying37 hi3 hv0 hv1 hv2 rfl (by decide) (.slice none 0 0) 0 [] (by rfl) (World.ownsRow_nil _ _ _ _) _ B3 n3 d3 (o.names.flatMap nmC) (by rfl) (HX6.out.reads HRD.out.names (Nat.le_refl _)) (nmC_one _) HM3.out HN3.out (Nat.le_trans HLE.out HX6.out.size) ?_; intro A7 c7 w7 ho7 hg7 ha7; have HX7 := hide (ext_none HX6.out hg7); rw [Nat.zero_add] at ho7; have HO7 := hide ho7; have hb7 := hb6.ext (ext_none (Ext.refl _) hg7); have HY7 := hide (ext_none (Ext.refl w6) hg7); clear ho7 hg7 ha7)
          | (refine step_append_any _ (by rfl) (.const (.slice none 0 0)) (.tmp 26) 35 (by rfl) w.heap.size neT i4 _ 3 32 Tryd.underlying35 hi4 hu0 hu1 hu2 rfl (by decide) (.slice none 0 0) 0 [] (by rfl) (World.ownsRow_nil _ _ _ _) _ A4 n4 c4 (o.needs.flatMap neC) (by rfl) (HX7.out.reads HRD.out.needs (Nat.le_refl _)) (neC_one _) HM4.out HN4.out (Nat.le_trans HLE.out HX7.out.size) ?_; intro A8 c8 w8 ho8 hg8 ha8; have HX8 := hide (ext_none HX7.out hg8); rw [Nat.zero_add] at ho8; have HO8 := hide ho8; have hb8 := hb7.ext (ext_none (Ext.refl _) hg8); have HY8 := hide (ext_none (Ext.refl w7) hg8); have HZA := hide ((Ext.refl w8).alloc (.cells #[.slice A5 n1 c5, .slice A6 n2 c6, .slice A7 n3 c7, .slice A8 n4 c8] obT)); have HSTA := hide (HST1.out.to (HX8.out.trans HZA.out)); have HRW := hide ((Blk.new w8 obT #[.slice A5 n1 c5, .slice A6 n2 c6, .slice A7 n3 c7, .slice A8 n4 c8]).rowsF' 1 4 rfl); have HON := hide (show ∀ u ∈ [Value.slice A5 n1 c5, .slice A6 n2 c6, .slice A7 n3 c7, .slice A8 n4 c8], u.oneCell' = true by simp [Value.oneCell']); clear ho8 hg8 ha8)
          | (refine step_append_any _ (by rfl) (.tmp 15) (.tmp 29) 23 (by rfl) w.heap.size obT i0 _ 4 96 Tryd.underlying23 hi0 hz0 hz1 hz2 rfl (by decide) (.slice A3 acc.length c3) acc.length (acc.flatMap obXC) (by rfl) HSTA.out.row _ _ 1 1 [.slice A5 n1 c5, .slice A6 n2 c6, .slice A7 n3 c7, .slice A8 n4 c8] (by rfl) HRW.out HON.out HL1.out HL2.out HSTA.out.ext.size ?_; intro A9 c9 w9 ho9 hg9 ha9; have HSTN := hide (HSTA.out.more (p := (o, ⟨A5, n1, c5, A6, n2, c6, A7, n3, c7, A8, n4, c8⟩)) ⟨HZA.out.own (HY8.out.own (HY7.out.own (HY6.out.own HO5.out))), HZA.out.own (HY8.out.own (HY7.out.own HO6.out)), HZA.out.own (HY8.out.own HO7.out), HZA.out.own HO8.out⟩ ho9 hg9); have hb9 := Blk.grown (hb8.alloc _) hg9 HNE.out; clear ho9 hg9 ha9)
          | fail)
      go_wp2_with fail
      go_roundw
      case rel => exact ⟨k + 1, acc ++ [(o, ⟨A5, n1, c5, A6, n2, c6, A7, n3, c7, A8, n4, c8⟩)], A9, c9, by omega, by go_num, by simp, by rw [HTK.out, List.map_append, HACC.out]; rfl, HSTN.out⟩
      case measure => simp [intOf]; omega
    · obtain rfl : k = n := by omega
      have HFN := hide (show acc.map Prod.fst = ps.map Prod.fst by rw [HACC.out, List.take_of_length_le (by omega)])
      go_wp2_with fail
      go_ret
      exact ⟨acc, A3, c3, rfl, HFN.out, HST.out⟩
end Go.Proofs.YtljlniehbenefaaDoor
