/- The contract of bind.Lacks. -/
import Derived.Test.YtljlniehbenefaaDoorBdLackP
import Derived.Test.YtljlniehbenefaaDoorBdSpots
import Derived.Test.YtljlniehbenefaaDoorMapSB
namespace Go.Proofs.YtljlniehbenefaaDoor
open Go.RowKit
set_option linter.unusedVariables false

theorem str_infoL : (Tryd.prog.info? 9).map (fun i => (i.zero, i.size, i.bytes)) = some (some (.string ⟨#[]⟩), 1, 16) := by kernel_rfl
def Lc1Rel (w1 : World) (ps : List ObX) (gm : Nat) (F : Bs → Bool) (v23 : Value) (wr : World) : Prop :=
  ∃ (i K : Nat) (f : Bs → Bool), i ≤ ps.length ∧ v23 = .int .i64 i ∧ K ≤ 24 * i ∧ nmsRun (nmsOf (ps.drop i)) f = F ∧ MapSB wr gm K f ∧ Ext w1 wr
def Lc2Rel (w1 : World) (nms : List NmD) (R : List Bs) (gm K0 : Nat) (F : Bs → Bool) (v30 : Value) (wr : World) : Prop :=
  ∃ (j K : Nat) (f : Bs → Bool), j ≤ nms.length ∧ v30 = .int .i64 j ∧ K ≤ K0 + j ∧ nmsRun ((nms.drop j).map NmD.name ++ R) f = F ∧ MapSB wr gm K f ∧ Ext w1 wr
/-- Memory while the lacking names are gathered. -/
structure LcSt (w1 : World) (gm K : Nat) (f : Bs → Bool) (out : List Bs) (A : Option Addr) (c : Nat) (wr : World) : Prop where
  m : MapSB wr gm K f
  row : wr.ownsRow (gm + 1) 9 1 (.slice A out.length c) out.length (strsV out)
  ext : Ext w1 wr
  lo : w1.heap.size ≤ gm
  few : out.length ≤ K
theorem LcSt.ne {w1 wr : World} {gm K : Nat} {f : Bs → Bool} {out : List Bs} {A : Option Addr} {c : Nat} (h : LcSt w1 gm K f out A c wr) : Value.ownBlock (.slice A out.length c) ≠ some gm := fun e => by have := (h.row.lt _ e).1; omega
theorem LcSt.to {w1 wr w' : World} {gm K : Nat} {f : Bs → Bool} {out : List Bs} {A : Option Addr} {c : Nat} (h : LcSt w1 gm K f out A c wr) (hx : Ext wr w') : LcSt w1 gm K f out A c w' := ⟨h.m.ext hx, hx.own h.row, h.ext.trans hx, h.lo, h.few⟩
theorem LcSt.upd {w1 wr w' : World} {gm K K' : Nat} {f f' : Bs → Bool} {out : List Bs} {A : Option Addr} {c : Nat} (h : LcSt w1 gm K f out A c wr) (hm : MapSB w' gm K' f') (hg : wr.grownBy w' (some gm)) (hK : K ≤ K') : LcSt w1 gm K' f' out A c w' :=
  ⟨hm, own_kept1 h.row hg h.ne, h.ext.grown hg (fun k hk => by injection hk with hk; subst hk; exact h.lo), h.lo, Nat.le_trans h.few hK⟩
theorem LcSt.more {w1 wr w' : World} {gm K : Nat} {f : Bs → Bool} {out : List Bs} {A A' : Option Addr} {c c' : Nat} (h : LcSt w1 gm K f out A c wr) (hlt : out.length + 1 ≤ K) {s : Bs} (ho : w'.ownsRow (gm + 1) 9 1 (.slice A' (out.length + 1) c') (out.length + 1) (strsV out ++ [.string (str s)])) (hg : wr.grownBy w' (Value.ownBlock (.slice A out.length c))) : LcSt w1 gm K f (out ++ [s]) A' c' w' := by
  have hl : (out ++ [s]).length = out.length + 1 := by simp
  exact ⟨h.m.kept hg (fun e => h.ne e.symm), by rw [hl, strsV_snoc]; exact ho, h.ext.grown hg (fun k hk => by have := (h.row.lt k hk).1; have := h.lo; omega), h.lo, by rw [hl]; exact hlt⟩
theorem LcSt.mono_ {w1 wr : World} {gm K K' : Nat} {f : Bs → Bool} {out : List Bs} {A : Option Addr} {c : Nat} (h : LcSt w1 gm K f out A c wr) (hK : K ≤ K') : LcSt w1 gm K' f out A c wr := ⟨h.m.mono hK, h.row, h.ext, h.lo, Nat.le_trans h.few hK⟩
def Lc3Rel (w1 : World) (ps : List ObX) (gm : Nat) (L : List Bs) (v10 v41 : Value) (wr : World) : Prop :=
  ∃ (i K : Nat) (f : Bs → Bool) (out : List Bs) (A : Option Addr) (c : Nat), i ≤ ps.length ∧ v41 = .int .i64 i ∧ v10 = .slice A out.length c ∧ K ≤ 300 + 40 * i ∧ lkRun (ndsOf (ps.drop i)) f out = L ∧ LcSt w1 gm K f out A c wr
def Lc4Rel (w1 : World) (nds : List NeD) (R : List Bs) (gm K0 : Nat) (L : List Bs) (v10 v48 : Value) (wr : World) : Prop :=
  ∃ (j K : Nat) (f : Bs → Bool) (out : List Bs) (A : Option Addr) (c : Nat), j ≤ nds.length ∧ v48 = .int .i64 j ∧ v10 = .slice A out.length c ∧ K ≤ K0 + j ∧ lkRun ((nds.drop j).map NeD.name ++ R) f out = L ∧ LcSt w1 gm K f out A c wr
set_option maxHeartbeats 16000000 in
set_option maxRecDepth 100000 in
theorem lacks_any (A : Option Addr) (n c : Nat) (ps : List ObX) (w : World) (h : Good w A n ps) (hn : n ≤ 12) :
    Calls Tryd.prog 10 #[.slice A n c] w fun e w' => ∃ A' c', e = .returned (.tuple #[.slice A' (lacksP ps).length c', .int .i64 0]) ∧ w'.ownsRow w.heap.size 9 1 (.slice A' (lacksP ps).length c') (lacksP ps).length (strsV (lacksP ps)) ∧ Ext w w' := by
  obtain ⟨i0, hi0, hz0, hz1, hz2⟩ := info_parts str_infoL
  have HG := hide h
  have hpl := h.len
  have HCK := hide (checked_ok A n c ps w h hn)
  obtain ⟨F, hF⟩ : ∃ F, nmsRun (nmsOf ps) (fun _ => false) = F := ⟨_, rfl⟩
  obtain ⟨L, hL⟩ : ∃ L, lacksP ps = L := ⟨_, rfl⟩
  have HF := hide hF
  have HLL := hide (show lkRun (ndsOf ps) F [] = L by rw [← hL, ← hF]; rfl)
  rw [hL]
  clear h hF hL
  go_enter Tryd.func10, Tryd.ntmps10
  go_wp2_with fail
  refine HCK.out.mono ?_
  rintro e w1 ⟨rfl, hx1⟩
  have HX1 := hide hx1
  have hmm := @run_makeMap Tryd.prog
  clear hx1 HCK
  go_upto_region 5 with fail
  clear hmm
  have HM0 := hide (MapSB.made w1)
  have HXA := hide ((Ext.refl w1).alloc (.map #[] 0))
  generalize w1.alloc (.map #[] 0) = W0 at *
  have HBASE := hide (show w.heap.size ≤ w1.heap.size from HX1.out.size)
  generalize hg1 : w1.heap.size = gm at *
  have HGM := hide hg1
  clear hg1
  go_wp2_with fail
  go_loopw [23] (Lc1Rel w1 ps gm F) (fun i _ => n - (intOf i).toNat)
  case atStart => exact ⟨0, 0, fun _ => false, Nat.zero_le _, rfl, Nat.le_refl _, HF.out, HM0.out, HXA.out⟩
  case round =>
    obtain ⟨i, K, f, hi, rfl, hK, hrun, hm, hx⟩ := hrel
    have HRUN := hide hrun
    have HM := hide hm
    have HX := hide hx
    clear hrun hm hx HM0 HXA HF
    by_cases hlt : i < n
    · obtain ⟨b, off, o, v, hi', rfl, hpi, hrd, hck, hsm, q0, q1, q2, q3⟩ := HG.out.at_ i hlt
      have HRU := HRUN
      rw [nmsOf_drop _ _ hi', hpi] at HRU
      obtain ⟨A1, n1, c1, A2, n2, c2, A3, n3, c3, A4, n4, c4⟩ := v
      have HWR := hide (HX1.out.trans HX.out)
      have q0 := HWR.out.cell q0
      have q1 := HWR.out.cell q1
      have q2 := HWR.out.cell q2
      have q3 := HWR.out.cell q3
      dsimp only at q0 q1 q2 q3
      have hb := Blk.new wr obT #[.slice A1 n1 c1, .slice A2 n2 c2, .slice A3 n3 c3, .slice A4 n4 c4]
      have hx1 := (Ext.refl wr).alloc (.cells #[.slice A1 n1 c1, .slice A2 n2 c2, .slice A3 n3 c3, .slice A4 n4 c4] obT)
      have HRD := hide hrd
      have HM1 := hide (HM.out.ext hx1)
      have HX2 := hide (HX.out.trans hx1)
      have hn3 : n3 ≤ 24 := by have := hck.nms; have := hrd.l3; dsimp only at this; omega
      have HL3 := hide (show o.names.length = n3 from hrd.l3)
      have HSM := hide hsm
      clear hrd hck hsm hpi hx1 HX HM HRUN
      go_upto_region 8 with fail
      generalize wr.alloc (.cells #[.slice A1 n1 c1, .slice A2 n2 c2, .slice A3 n3 c3, .slice A4 n4 c4] obT) = W at *
      generalize wr.heap.size = g at *
      clear q0 q1 q2 q3
      have p2 : W.cell? ⟨g, 2, none⟩ = some (.slice A3 n3 c3) := hb.cell 2
      clear hb
      go_wp2_with fail
      clear p2
      go_loopw [30] (Lc2Rel w1 o.names (nmsOf (ps.drop (i + 1))) gm K F) (fun i _ => n3 - (intOf i).toNat)
      case atStart => exact ⟨0, K, f, Nat.zero_le _, rfl, Nat.le_refl _, HRU.out, HM1.out, HX2.out⟩
      case round =>
        obtain ⟨j, K', f', hj, rfl, hK', hrun, hm, hx⟩ := hrel
        have HRUN := hide hrun
        have HM := hide hm
        have HX := hide hx
        clear hrun hm hx HM1 HX2 HRU
        by_cases hlt2 : j < n3
        · have hj' : j < o.names.length := by rw [HL3.out]; exact hlt2
          have HWR2 := hide (HX1.out.trans HX.out)
          obtain ⟨b3, off3, rfl, -⟩ := HRD.out.names.addr (by omega) (by show 0 < n3; omega)
          have q0 := HWR2.out.cell (Reads.elem nmC_len HRD.out.names j hj' (by show 0 < n3; omega) 0 (by omega) rfl)
          have q1 := HWR2.out.cell (Reads.elem nmC_len HRD.out.names j hj' (by show 0 < n3; omega) 1 (by omega) rfl)
          have q2 := HWR2.out.cell (Reads.elem nmC_len HRD.out.names j hj' (by show 0 < n3; omega) 2 (by omega) rfl)
          have q3 := HWR2.out.cell (Reads.elem nmC_len HRD.out.names j hj' (by show 0 < n3; omega) 3 (by omega) rfl)
          rw [Nat.add_zero] at q0
          have hnb := HSM.out.nm o.names[j] (List.getElem_mem hj')
          have HRU2 := HRUN
          rw [List.drop_eq_getElem_cons hj', List.map_cons, List.cons_append] at HRU2
          generalize o.names[j] = x at *
          obtain ⟨nm, wh, pos, weak⟩ := x
          dsimp only at q0 q1 q2 q3 HRU2 hnb
          have hnl : nm.length ≤ maxLen := by have := hnb.1; simp only [maxLen]; omega
          have hb9 := Blk.new wr nmT #[.string (str nm), .int .i64 wh, .int .i64 pos, .bool weak]
          have hx9 := (Ext.refl wr).alloc (.cells #[.string (str nm), .int .i64 wh, .int .i64 pos, .bool weak] nmT)
          have HM9 := hide (HM.out.ext hx9)
          have HX9 := hide (HX.out.trans hx9)
          clear hx9 HM HX HRUN HWR2 hnb
          go_upto_region 11 with fail
          generalize wr.alloc (.cells #[.string (str nm), .int .i64 wh, .int .i64 pos, .bool weak] nmT) = W9 at *
          generalize wr.heap.size = gn at *
          clear q0 q1 q2 q3
          have b0 : W9.cell? ⟨gn, 0, none⟩ = some (.string (str nm)) := hb9.cell 0
          clear hb9
          have hK8 : K' < maxLen := by simp only [maxLen]; omega
          obtain ⟨W11, hrun1, hm11, hg11⟩ := HM9.out.store hK8 nm hnl true
          have HM11 := hide hm11
          have HX11 := hide (HX9.out.grown hg11 (fun k hk => by injection hk with hk; rw [← hk, HGM.out]; exact Nat.le_refl _))
          clear hm11 hg11
          go_wp2_with fail
          go_roundw
          case rel => exact ⟨j + 1, K' + 1, _, by omega, by go_num, by omega, HRU2.out, HM11.out, HX11.out⟩
          case measure => simp [intOf]; omega
        · obtain rfl : j = n3 := by have := HL3.out; omega
          have HRE := hide (show nmsRun (nmsOf (ps.drop (i + 1))) f' = F by have := HRUN.out; rwa [List.drop_of_length_le (by rw [HL3.out]; omega), List.map_nil, List.nil_append] at this)
          go_wp2_with fail
          go_roundw
          case rel => exact ⟨i + 1, K', f', by omega, by go_num, by omega, HRE.out, HM.out, HX.out⟩
          case measure => simp [intOf]; omega
    · obtain rfl : i = n := by omega
      have HRE := hide (show f = F by have := HRUN.out; rwa [List.drop_of_length_le (by omega)] at this)
      obtain rfl := HRE.out
      have HST0 := hide (show LcSt w1 gm K f [] none 0 wr from ⟨HM.out, World.ownsRow_nil _ _ _ _, HX.out, by rw [HGM.out]; exact Nat.le_refl _, Nat.zero_le _⟩)
      clear HRE HRUN HM HX
      go_wp2_with fail
      go_loopw [10, 41] (Lc3Rel w1 ps gm L) (fun _ m _ => i - (intOf m).toNat)
      case atStart => exact ⟨0, 300, f, [], none, 0, Nat.zero_le _, rfl, rfl, Nat.le_refl _, HLL.out, HST0.out.mono_ (by omega)⟩
      case round =>
        obtain ⟨k, K3, f3, out, A10, c10, hk, rfl, rfl, hK3, hrun, hst⟩ := hrel
        have HRUN := hide hrun
        have HST := hide hst
        clear hrun hst HST0 HLL
        by_cases hlt : k < i
        · obtain ⟨b, off, o, v, hi', rfl, hpi, hrd, hck, hsm, q0, q1, q2, q3⟩ := HG.out.at_ k hlt
          have HRU := HRUN
          rw [ndsOf_drop _ _ hi', hpi] at HRU
          obtain ⟨A1, n1, c1, A2, n2, c2, A3, n3, c3, A4, n4, c4⟩ := v
          have HWR := hide (HX1.out.trans HST.out.ext)
          have q0 := HWR.out.cell q0
          have q1 := HWR.out.cell q1
          have q2 := HWR.out.cell q2
          have q3 := HWR.out.cell q3
          dsimp only at q0 q1 q2 q3
          have hb := Blk.new wr obT #[.slice A1 n1 c1, .slice A2 n2 c2, .slice A3 n3 c3, .slice A4 n4 c4]
          have hx1 := (Ext.refl wr).alloc (.cells #[.slice A1 n1 c1, .slice A2 n2 c2, .slice A3 n3 c3, .slice A4 n4 c4] obT)
          have HRD := hide hrd
          have HST1 := hide (HST.out.to hx1)
          have hn4 : n4 ≤ 40 := by have := hck.nds; have := hrd.l4; dsimp only at this; omega
          have HL4 := hide (show o.needs.length = n4 from hrd.l4)
          have HSM := hide hsm
          clear hrd hck hsm hpi hx1 HST HRUN
          go_upto_region 18 with fail
          generalize wr.alloc (.cells #[.slice A1 n1 c1, .slice A2 n2 c2, .slice A3 n3 c3, .slice A4 n4 c4] obT) = W at *
          generalize wr.heap.size = g at *
          clear q0 q1 q2 q3
          have p3 : W.cell? ⟨g, 3, none⟩ = some (.slice A4 n4 c4) := hb.cell 3
          clear hb
          go_wp2_with fail
          clear p3
          go_loopw [10, 48] (Lc4Rel w1 o.needs (ndsOf (ps.drop (k + 1))) gm K3 L) (fun _ m _ => n4 - (intOf m).toNat)
          case atStart => exact ⟨0, K3, f3, out, A10, c10, Nat.zero_le _, rfl, rfl, Nat.le_refl _, HRU.out, HST1.out⟩
          case round =>
            obtain ⟨j, K4, f4, out, A10, c10, hj, rfl, rfl, hK4, hrun, hst⟩ := hrel
            have HRUN := hide hrun
            have HST := hide hst
            clear hrun hst HST1 HRU
            by_cases hlt2 : j < n4
            · have hj' : j < o.needs.length := by rw [HL4.out]; exact hlt2
              have HWR2 := hide (HX1.out.trans HST.out.ext)
              obtain ⟨b3, off3, rfl, -⟩ := HRD.out.needs.addr (by omega) (by show 0 < n4; omega)
              have q0 := HWR2.out.cell (Reads.elem neC_len HRD.out.needs j hj' (by show 0 < n4; omega) 0 (by omega) rfl)
              have q1 := HWR2.out.cell (Reads.elem neC_len HRD.out.needs j hj' (by show 0 < n4; omega) 1 (by omega) rfl)
              have q2 := HWR2.out.cell (Reads.elem neC_len HRD.out.needs j hj' (by show 0 < n4; omega) 2 (by omega) rfl)
              rw [Nat.add_zero] at q0
              have hnb := HSM.out.ne o.needs[j] (List.getElem_mem hj')
              have HRU2 := HRUN
              rw [List.drop_eq_getElem_cons hj', List.map_cons, List.cons_append] at HRU2
              generalize o.needs[j] = x at *
              obtain ⟨pos, nm, kind⟩ := x
              dsimp only at q0 q1 q2 HRU2 hnb
              have hnl : nm.length ≤ maxLen := by have := hnb.1; simp only [maxLen]; omega
              have hb9 := Blk.new wr neT #[.int .i64 pos, .string (str nm), .int .i64 kind]
              have hx9 := (Ext.refl wr).alloc (.cells #[.int .i64 pos, .string (str nm), .int .i64 kind] neT)
              have HST9 := hide (HST.out.to hx9)
              have HGN := hide HST.out.m.lt
              clear hx9 HST HRUN HWR2 hnb
              go_upto_region 21 with fail
              generalize wr.alloc (.cells #[.int .i64 pos, .string (str nm), .int .i64 kind] neT) = W9 at *
              have hgn : gm < wr.heap.size := HGN.out
              generalize wr.heap.size = gn at *
              clear q0 q1 q2
              have HB9 := hide hb9
              have b1 : W9.cell? ⟨gn, 1, none⟩ = some (.string (str nm)) := hb9.cell 1
              clear hb9
              have hl := HST9.out.m.look nm hnl
              cases hf : f4 nm with
              | true =>
                rw [hf] at hl
                have HRE := hide (show lkRun ((o.needs.drop (j + 1)).map NeD.name ++ ndsOf (ps.drop (k + 1))) f4 out = L by rw [← lkRun_has hf]; exact HRU2.out)
                clear hf HB9
                go_wp2_with fail
                go_roundw
                case rel => exact ⟨j + 1, K4, f4, out, A10, c10, by omega, by go_num, rfl, by omega, HRE.out, HST9.out⟩
                case measure => simp [intOf]; omega
              | false =>
                rw [hf] at hl
                have HRE := hide (show lkRun ((o.needs.drop (j + 1)).map NeD.name ++ ndsOf (ps.drop (k + 1))) (updS f4 nm true) (out ++ [nm]) = L by rw [← lkRun_new hf]; exact HRU2.out)
                have hK8 : K4 < maxLen := by simp only [maxLen]; omega
                have HFEW := hide HST9.out.few
                obtain ⟨W11, hrun1, hm11, hg11⟩ := HST9.out.m.store hK8 nm hnl true
                have hb11 := HB9.out.grown hg11 (fun e => by injection e with e; omega)
                have y1 : W11.cell? ⟨gn, 1, none⟩ = some (.string (str nm)) := hb11.cell 1
                have hst11 := HST9.out.upd hm11 hg11 (Nat.le_succ _)
                have hxa := (Ext.refl W11).alloc (.cells #[.string (str nm)] 9)
                have HSTA := hide (hst11.to hxa)
                have HRW := hide ((Blk.new W11 9 #[.string (str nm)]).rowsF' 1 1 rfl)
                have HL1 := hide (show out.length + 1 ≤ maxLen by have := HFEW.out; simp only [maxLen]; omega)
                have HL2 := hide (show (out.length + 1) * 16 ≤ 140737488355328 by have := HFEW.out; omega)
                have HON := hide (show ∀ u ∈ [Value.string (str nm)], u.oneCell' = true by simp [Value.oneCell'])
                have HLO := hide (show gm + 1 ≤ (W11.alloc (.cells #[.string (str nm)] 9)).heap.size from HSTA.out.m.lt)
                have HFEW1 := hide (show out.length + 1 ≤ K4 + 1 by have := HFEW.out; omega)
                clear hf hm11 hg11 hst11 hxa hb11 HB9 HST9
                go_wp2_with (at_builtin; refine wpList_append_any _ rfl (.tmp 60) (.tmp 63) 28 rfl (gm + 1) 9 i0 _ 1 16 Tryd.underlying28 hi0 hz0 hz1 hz2 rfl (by decide) (.slice A10 out.length c10) out.length (strsV out) rfl HSTA.out.row _ _ 1 1 [.string (str nm)] rfl HRW.out HON.out HL1.out HL2.out HLO.out ?_; intro A12 c12 w12 ho12 hg12 ha12; have HSTN := hide (HSTA.out.more HFEW1.out ho12 hg12); clear ho12 hg12 ha12)
                go_roundw
                case rel => exact ⟨j + 1, K4 + 1, _, out ++ [nm], A12, c12, by omega, by go_num, by simp, by omega, HRE.out, HSTN.out⟩
                case measure => simp [intOf]; omega
            · obtain rfl : j = n4 := by have := HL4.out; omega
              have HRE := hide (show lkRun (ndsOf (ps.drop (k + 1))) f4 out = L by have := HRUN.out; rwa [List.drop_of_length_le (by rw [HL4.out]; omega), List.map_nil, List.nil_append] at this)
              go_wp2_with fail
              go_roundw
              case rel => exact ⟨k + 1, K4, f4, out, A10, c10, by omega, by go_num, rfl, by omega, HRE.out, HST.out⟩
              case measure => simp [intOf]; omega
        · obtain rfl : k = i := by omega
          have HRE := hide (show out = L by have := HRUN.out; rwa [List.drop_of_length_le (by omega)] at this)
          obtain rfl := HRE.out
          have HLO := hide (own_mono HST.out.row (show w.heap.size ≤ gm + 1 by have := HBASE.out; have := HGM.out; omega))
          have HXF := hide (HX1.out.trans HST.out.ext)
          clear HRE
          go_wp2_with fail
          exact bodyPost_ret (v := .tuple #[.slice A10 out.length c10, .int .i64 0]) (by simp [results, Tryd.results10, go_sem]) rfl ⟨A10, c10, rfl, HLO.out, HXF.out⟩
end Go.Proofs.YtljlniehbenefaaDoor
