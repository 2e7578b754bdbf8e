/- The contracts of bind.address and Places. -/
import Derived.Test.YtljlniehbenefaaBdSpots
import Derived.Test.YtljlniehbenefaaBdPl
namespace Go.Proofs.Ytljlniehbenefaa
open Go.RowKit
set_option linter.unusedVariables false

theorem pl_info : (Try.prog.info? 40).map (fun i => (i.zero, i.size, i.bytes)) = some (some (.agg #[.string ⟨#[]⟩, .int .i64 0, .int .i64 0]), 3, 32) := by kernel_rfl
set_option maxHeartbeats 4000000 in
set_option maxRecDepth 100000 in
theorem address_any (c d : Nat) (n : NmD) (w : World) (hc : c ≤ 100000) (hd : d ≤ 100000) (h1 : -1000000 ≤ n.pos) (h2 : n.pos ≤ 1000000) :
    Calls Try.prog 10 #[.agg #[.int .i64 (c : Int), .int .i64 (d : Int)], .agg #[.string (str n.name), .int .i64 n.wh, .int .i64 n.pos, .bool n.weak]] w fun e w' => e = .returned (.int .i64 (addrN c d n)) ∧ Ext w w' := by
  obtain ⟨nm, wh, pos, weak⟩ := n
  dsimp only at h1 h2
  have HA := hide (show addrN c d ⟨nm, wh, pos, weak⟩ = (if wh = 1 then (c : Int) else (d : Int)) + pos from rfl)
  generalize addrN c d ⟨nm, wh, pos, weak⟩ = z at *
  have HX := hide (((Ext.refl w).alloc (.cells #[.int .i64 (c : Int), .int .i64 (d : Int)] spT)).alloc (.cells #[.string (str nm), .int .i64 wh, .int .i64 pos, .bool weak] nmT))
  by_cases hw : wh = 1
  · have HE := hide (show z = (c : Int) + pos by rw [HA.out, if_pos hw])
    subst hw
    clear HA
    go_enter Try.func10, Try.ntmps10
    go_wp2_with fail
    go_ret
    exact ⟨by rw [HE.out]; rfl, HX.out⟩
  · have HE := hide (show z = (d : Int) + pos by rw [HA.out, if_neg hw])
    have t1 : (wh == 1) = false := by simpa using hw
    clear HA hw
    go_enter Try.func10, Try.ntmps10
    go_wp2_with fail
    go_ret
    exact ⟨by rw [HE.out]; rfl, HX.out⟩
/-- A box made new. -/
def NewP (W : World) (p : PlD) (s : Value) (wx : World) : Prop := ∃ g, s = .pointer (some ⟨g, 0, none⟩) ∧ Blk wx g plT #[.string (str p.name), .int .i64 (p.part : Int), .int .i64 p.addr] ∧ W.heap.size ≤ g ∧ Ext W wx
theorem NewP.drew {W : World} {p : PlD} {s : Value} {wx : World} (h : NewP W p s wx) : NewP W p s wx.drew := by
  obtain ⟨g, h1, h2, h3, h4⟩ := h
  exact ⟨g, h1, h2.drew, h3, h4.drew⟩
theorem newPA {W W' : World} {p : PlD} (hx : Ext W W') : NewP W p (.pointer (some ⟨W'.heap.size, 0, none⟩)) (W'.alloc (.cells #[.string (str p.name), .int .i64 (p.part : Int), .int .i64 p.addr] plT)) :=
  ⟨_, rfl, Blk.new _ _ _, hx.size, hx.alloc _⟩
theorem newPB {W W' : World} {p : PlD} {g : Nat} {z0 z1 z2 : Value} (hb : Blk W' g plT #[z0, z1, z2]) (hg : W.heap.size ≤ g) (hx : Ext W W') :
    NewP W p (.pointer (some ⟨g, 0, none⟩)) (((W'.setCell ⟨g, 0, none⟩ (.string (str p.name))).setCell ⟨g, 1, none⟩ (.int .i64 (p.part : Int))).setCell ⟨g, 2, none⟩ (.int .i64 p.addr)) :=
  ⟨g, rfl, ((hb.set_ 0 _).set_ 1 _).set_ 2 _, hg, ((hx.setCell (p := ⟨g, 0, none⟩) hg _).setCell (p := ⟨g, 1, none⟩) hg _).setCell (p := ⟨g, 2, none⟩) hg _⟩
def PlOut (w : World) (F : Option PlS) (e : Ending) (w' : World) : Prop :=
  Ext w w' ∧ ((∃ S A c, F = some S ∧ e = .returned (.tuple #[.slice A S.out.length c, .int .i64 0]) ∧ w'.ownsRow w.heap.size plT 3 (.slice A S.out.length c) S.out.length (S.out.flatMap plC)) ∨ (F = none ∧ e = .returned (.tuple #[.slice none 0 0, .int .i64 5])))
def Pl1Rel (w wS : World) (os : List ObX) (gm1 gm2 : Nat) (F : Option PlS) (v7 v30 : Value) (wr : World) : Prop :=
  ∃ (i K : Nat) (S : PlS) (A : Option Addr) (c : Nat), i ≤ os.length ∧ v30 = .int .i64 i ∧ v7 = .slice A S.out.length c ∧ K ≤ 48 * i ∧ plRun (defsG (defN os) (os.drop i) i) S = F ∧ PlSt wS gm1 gm2 K S A c wr
def Pl2Rel (wS : World) (f : NmD → PlW) (R : List PlW) (nms : List NmD) (gm1 gm2 K0 : Nat) (F : Option PlS) (v7 v38 : Value) (wr : World) : Prop :=
  ∃ (j K : Nat) (S : PlS) (A : Option Addr) (c : Nat), j ≤ nms.length ∧ v38 = .int .i64 j ∧ v7 = .slice A S.out.length c ∧ K ≤ K0 + 2 * j ∧ plRun ((nms.drop j).map f ++ R) S = F ∧ PlSt wS gm1 gm2 K S A c wr
set_option maxHeartbeats 16000000 in
set_option maxRecDepth 100000 in
theorem places_any (A : Option Addr) (n c : Nat) (ps : List ObX) (w : World) (h : Good w A n ps) (hn : n ≤ 12) (hfit : endL ps ≤ 1024) :
    Calls Try.prog 6 #[.slice A n c] w (PlOut w (placesP ps)) := by
  obtain ⟨i0, hi0, hz0, hz1, hz2⟩ := info_parts pl_info
  have HG := hide h
  have hpl := h.len
  have HCB := hide (cLen_bd h.chk (by omega))
  have HFIT := hide hfit
  have HSP := hide (spots_any A n c ps w h hn hfit)
  obtain ⟨F, hF⟩ : ∃ F, placesP ps = F := ⟨_, rfl⟩
  have HF := hide (show plRun (defsG (defN ps) ps 0) ⟨[], fun _ => false⟩ = F from hF)
  rw [hF]
  clear h hF
  go_enter Try.func6, Try.ntmps6
  go_wp2_with fail
  refine HSP.out.mono ?_
  rintro e w1 ⟨As, cs, rfl, ho1, hx1⟩
  have HRS := hide (Reads.of_own ho1)
  have HX1 := hide hx1
  have hmm := @run_makeMap Try.prog
  clear ho1 hx1 HSP
  go_upto_region 7 with fail
  clear hmm
  have HST0 := hide (show PlSt w1 w1.heap.size (w1.heap.size + 1) 0 ⟨[], fun _ => false⟩ none 0 ((w1.alloc (.map #[] 0)).alloc (.map #[] 0)) from
    ⟨(MapSI.made w1).alloc _, by have := MapSB.made (w1.alloc (.map #[] 0)); simpa using this, World.ownsRow_nil _ _ _ _, ((Ext.refl w1).alloc _).alloc _, Nat.le_refl _, by omega, Nat.le_refl _⟩)
  have HBASE := hide (show w.heap.size ≤ w1.heap.size from HX1.out.size)
  generalize (w1.alloc (.map #[] 0)).alloc (.map #[] 0) = W0 at *
  generalize hg2 : w1.heap.size + 1 = gm2 at *
  generalize hg1 : w1.heap.size = gm1 at *
  go_wp2_with fail
  go_loopw [7, 30] (Pl1Rel w w1 ps gm1 gm2 F) (fun _ i _ => n - (intOf i).toNat)
  case atStart => exact ⟨0, 0, ⟨[], fun _ => false⟩, none, 0, Nat.zero_le _, rfl, rfl, Nat.le_refl _, HF.out, HST0.out⟩
  case round =>
    obtain ⟨i, K, S, A7, c7, hi, rfl, rfl, hK, hrun, hst⟩ := hrel
    have HRUN := hide hrun
    have HST := hide hst
    clear hrun hst HST0 HF
    by_cases hlt : i < n
    · obtain ⟨b, off, o, v, hi', rfl, hpi, hrd, hck, hsm, q0, q1, q2, q3⟩ := HG.out.at_ i hlt
      have HRU := HRUN
      rw [defsG_drop _ _ _ hi', hpi] at HRU
      obtain ⟨A1, n1, c1, A2, n2, c2, A3, n3, c3, A4, n4, c4⟩ := v
      have hca : cAt ps i ≤ 6160 := by have := cAt_le ps i; have := HCB.out; omega
      have hda : dAt ps i ≤ 1024 := Nat.le_trans (dAt_le ps i) HFIT.out
      have hsl : i < (spotsL ps).length := by simp [spotsL]; omega
      obtain ⟨bs, os, rfl, -⟩ := HRS.out.addr (by omega) (by omega)
      have s0 := Reads.elem spC_len HRS.out i hsl (by omega) 0 (by omega) rfl
      have s1 := Reads.elem spC_len HRS.out i hsl (by omega) 1 (by omega) rfl
      rw [Nat.add_zero, show (spotsL ps)[i] = (cAt ps i, dAt ps i) by simp [spotsL]] at s0
      rw [show (spotsL ps)[i] = (cAt ps i, dAt ps i) by simp [spotsL]] at s1
      dsimp only at s0 s1
      have HS0 := hide s0
      have HS1 := hide s1
      have HWR := hide (HX1.out.trans HST.out.ext)
      have q0 := HWR.out.cell q0
      have q1 := HWR.out.cell q1
      have q2 := HWR.out.cell q2
      have q3 := HWR.out.cell q3
      dsimp only at q0 q1 q2 q3
      clear s0 s1
      obtain ⟨fN, hfN⟩ : ∃ fN, defN ps i = fN := ⟨_, rfl⟩
      have HFN := hide (show ∀ nm, fN nm = ⟨⟨nm.name, i, addrN (cAt ps i) (dAt ps i) nm⟩, nm.weak⟩ by rw [← hfN]; exact fun _ => rfl)
      rw [hfN] at HRU
      have hb := Blk.new wr obT #[.slice A1 n1 c1, .slice A2 n2 c2, .slice A3 n3 c3, .slice A4 n4 c4]
      have hx1 := (Ext.refl wr).alloc (.cells #[.slice A1 n1 c1, .slice A2 n2 c2, .slice A3 n3 c3, .slice A4 n4 c4] obT)
      have HRD := hide hrd
      have HST1 := hide (HST.out.to hx1)
      have hn3 : n3 ≤ 24 := by have := hck.nms; have := hrd.l3; dsimp only at this; omega
      have HL3 := hide (show o.names.length = n3 from hrd.l3)
      have HSM := hide hsm
      generalize cAt ps i = ca at *
      generalize dAt ps i = da at *
      clear hrd hck hsm hpi hfN hx1 HST HRUN
      go_upto_region 10 with fail
      generalize wr.alloc (.cells #[.slice A1 n1 c1, .slice A2 n2 c2, .slice A3 n3 c3, .slice A4 n4 c4] obT) = W at *
      generalize wr.heap.size = g at *
      clear q0 q1 q2 q3
      have p2 : W.cell? ⟨g, 2, none⟩ = some (.slice A3 n3 c3) := hb.cell 2
      clear hb
      go_wp2_with fail
      clear p2
      go_loopw [7, 38] (Pl2Rel w1 fN (defsG (defN ps) (ps.drop (i + 1)) (i + 1)) o.names gm1 gm2 K F) (fun _ i _ => n3 - (intOf i).toNat)
      case atStart => exact ⟨0, K, S, A7, c7, Nat.zero_le _, rfl, rfl, Nat.le_refl _, HRU.out, HST1.out⟩
      case round =>
        obtain ⟨j, K', S', A8, c8, hj, rfl, rfl, hK', hrun, hst⟩ := hrel
        have HRUN := hide hrun
        have HST := hide hst
        clear hrun hst HST1 HRU
        by_cases hlt2 : j < n3
        · have hj' : j < o.names.length := by rw [HL3.out]; exact hlt2
          have HWR2 := hide (HX1.out.trans HST.out.ext)
          obtain ⟨b3, off3, rfl, -⟩ := HRD.out.names.addr (by omega) (by show 0 < n3; omega)
          have q0 := HWR2.out.cell (Reads.elem nmC_len HRD.out.names j hj' (by show 0 < n3; omega) 0 (by omega) rfl)
          have q1 := HWR2.out.cell (Reads.elem nmC_len HRD.out.names j hj' (by show 0 < n3; omega) 1 (by omega) rfl)
          have q2 := HWR2.out.cell (Reads.elem nmC_len HRD.out.names j hj' (by show 0 < n3; omega) 2 (by omega) rfl)
          have q3 := HWR2.out.cell (Reads.elem nmC_len HRD.out.names j hj' (by show 0 < n3; omega) 3 (by omega) rfl)
          rw [Nat.add_zero] at q0
          have s0 := HST.out.ext.cell HS0.out
          have s1 := HST.out.ext.cell HS1.out
          have hnb := HSM.out.nm o.names[j] (List.getElem_mem hj')
          have HRU2 := HRUN
          rw [List.drop_eq_getElem_cons hj', List.map_cons, HFN.out, List.cons_append] at HRU2
          generalize o.names[j] = x at *
          have HAD := hide (fun W => address_any ca da x W (by omega) (by omega) hnb.2.1.1 hnb.2.1.2)
          have haz : -1000000 ≤ addrN ca da x ∧ addrN ca da x ≤ 1010000 := by
            have := hnb.2.1
            unfold addrN
            split <;> omega
          obtain ⟨nm, wh, pos, weak⟩ := x
          dsimp only at q0 q1 q2 q3 HRU2 HAD hnb
          generalize addrN ca da ⟨nm, wh, pos, weak⟩ = az at *
          have HNL := hide (show nm.length ≤ 1000 from hnb.1)
          have hb9 := Blk.new wr nmT #[.string (str nm), .int .i64 wh, .int .i64 pos, .bool weak]
          have hx9 := (Ext.refl wr).alloc (.cells #[.string (str nm), .int .i64 wh, .int .i64 pos, .bool weak] nmT)
          have HST9 := hide (HST.out.to hx9)
          have HST0' := hide HST.out.m2.lt
          have s0 := hx9.cell s0
          have s1 := hx9.cell s1
          clear hx9 HST HRUN HWR2 hnb
          go_upto_region 13 with fail
          generalize wr.alloc (.cells #[.string (str nm), .int .i64 wh, .int .i64 pos, .bool weak] nmT) = W9 at *
          have hgn : gm2 < wr.heap.size := HST0'.out
          have hgW : gm2 < W9.heap.size := HST9.out.m2.lt
          generalize wr.heap.size = gn at *
          clear q0 q1 q2 q3
          have HB9 := hide hb9
          have b0 : W9.cell? ⟨gn, 0, none⟩ = some (.string (str nm)) := hb9.cell 0
          have b1 : W9.cell? ⟨gn, 1, none⟩ = some (.int .i64 wh) := hb9.cell 1
          have b2 : W9.cell? ⟨gn, 2, none⟩ = some (.int .i64 pos) := hb9.cell 2
          have b3 : W9.cell? ⟨gn, 3, none⟩ = some (.bool weak) := hb9.cell 3
          clear hb9
          go_cut [14, 38] from 38 to 95 (fun s14 s38 wx => s38 = .int .i64 j ∧ NewP W9 ⟨nm, i, az⟩ s14 wx)
          case first =>
            go_region_held3 (fun w' => w'.cell? ⟨gn, 0, none⟩ = some (.string (str nm)) ∧ w'.cell? ⟨gn, 1, none⟩ = some (.int .i64 wh) ∧ w'.cell? ⟨gn, 2, none⟩ = some (.int .i64 pos) ∧ w'.cell? ⟨gn, 3, none⟩ = some (.bool weak) ∧ w'.cell? ⟨bs, os + i * 2, none⟩ = some (.int .i64 (ca : Int)) ∧ w'.cell? ⟨bs, os + i * 2 + 1, none⟩ = some (.int .i64 (da : Int)))
              (first | exact ⟨b0, b1, b2, b3, s0, s1⟩ | (refine ⟨Ext.cell (w := W9) ?_ b0, Ext.cell (w := W9) ?_ b1, Ext.cell (w := W9) ?_ b2, Ext.cell (w := W9) ?_ b3, Ext.cell (w := W9) ?_ s0, Ext.cell (w := W9) ?_ s1⟩ <;> ((repeat (first | with_reducible exact Ext.refl _ | with_reducible assumption | with_reducible refine Ext.alloc ?_ _ | with_reducible refine Ext.drew ?_ | with_reducible refine Ext.drewN ?_ _ | with_reducible refine Ext.setCell ?_ (by first | exact Nat.le_refl _ | assumption | (simp; done) | omega) _ | with_reducible refine Ext.trans ?_ (by with_reducible assumption))); done)) | fail)
              (first
                | (go_at_call_of 10 (Value.agg #[Value.int IntKind.i64 (ca : Int), Value.int IntKind.i64 (da : Int)]); refine (HAD.out _).mono ?_; rintro e w6 ⟨rfl, hx6⟩
                   have HX6 := hide (Ext.trans (a := W9) (by ((repeat (first | with_reducible exact Ext.refl _ | with_reducible assumption | with_reducible refine Ext.alloc ?_ _ | with_reducible refine Ext.drew ?_ | with_reducible refine Ext.drewN ?_ _ | with_reducible refine Ext.setCell ?_ (by first | exact Nat.le_refl _ | assumption | (simp; done) | omega) _ | with_reducible refine Ext.trans ?_ (by with_reducible assumption))); done)) hx6)
                   first
                     | (have HBY := hide ((Blk.new W9 plT #[.string ⟨#[]⟩, .int .i64 0, .int .i64 0]).ext hx6); have fy0 := HBY.out.frozen 0; have fy1 := HBY.out.frozen 1; have fy2 := HBY.out.frozen 2; have cy0 : w6.cell? ⟨W9.heap.size, 0, none⟩ = some (.string ⟨#[]⟩) := HBY.out.cell 0; have cy1 : w6.cell? ⟨W9.heap.size, 1, none⟩ = some (.int .i64 0) := HBY.out.cell 1; have cy2 : w6.cell? ⟨W9.heap.size, 2, none⟩ = some (.int .i64 0) := HBY.out.cell 2)
                     | (have HBY := hide ((Blk.new W9 plT #[.string ⟨#[]⟩, .int .i64 0, .int .i64 0]).drew.ext hx6); have fy0 := HBY.out.frozen 0; have fy1 := HBY.out.frozen 1; have fy2 := HBY.out.frozen 2; have cy0 : w6.cell? ⟨W9.heap.size, 0, none⟩ = some (.string ⟨#[]⟩) := HBY.out.cell 0; have cy1 : w6.cell? ⟨W9.heap.size, 1, none⟩ = some (.int .i64 0) := HBY.out.cell 1; have cy2 : w6.cell? ⟨W9.heap.size, 2, none⟩ = some (.int .i64 0) := HBY.out.cell 2)
                     | (have HBY := hide ((Blk.new W9.drew plT #[.string ⟨#[]⟩, .int .i64 0, .int .i64 0]).ext hx6); have fy0 := HBY.out.frozen 0; have fy1 := HBY.out.frozen 1; have fy2 := HBY.out.frozen 2; have cy0 : w6.cell? ⟨W9.heap.size, 0, none⟩ = some (.string ⟨#[]⟩) := HBY.out.cell 0; have cy1 : w6.cell? ⟨W9.heap.size, 1, none⟩ = some (.int .i64 0) := HBY.out.cell 1; have cy2 : w6.cell? ⟨W9.heap.size, 2, none⟩ = some (.int .i64 0) := HBY.out.cell 2)
                     | have HBY := hide True.intro)
                | fail)
            all_goals
              go_wp2_with fail
              go_meet
              refine ⟨rfl, ?_⟩
              first
                | exact newPA HX6.out
                | exact (newPA HX6.out).drew
                | exact newPA HX6.out.drew
                | exact newPB HBY.out (Nat.le_refl _) HX6.out
                | exact (newPB HBY.out (Nat.le_refl _) HX6.out).drew
          case rest =>
            obtain ⟨rfl, gp, rfl, hbp, hgp, hx10⟩ := hcut
            have HST10 := hide (HST9.out.to hx10)
            have HB10 := hide (HB9.out.ext hx10)
            have HBP := hide hbp
            have b0 : wc.cell? ⟨gn, 0, none⟩ = some (.string (str nm)) := HB10.out.cell 0
            have b3 : wc.cell? ⟨gn, 3, none⟩ = some (.bool weak) := HB10.out.cell 3
            have hnl : nm.length ≤ maxLen := by have := HNL.out; simp only [maxLen]; omega
            have hl1 := HST10.out.m1.look nm hnl
            clear s0 s1 b1 b2 hbp hx10 HST9 HB9 HAD
            have hK8 : K' < maxLen := by simp only [maxLen]; omega
            have HK9 := hide (show K' + 1 < maxLen by simp only [maxLen]; omega)
            obtain ⟨W11, hrun1, hm11, hg11⟩ := HST10.out.m1.store hK8 nm hnl (S'.out.length : Int) (by omega) (by have := HST10.out.few; omega)
            have hl2 := HST10.out.m2.look nm hnl
            have HM11 := hide hm11
            have HG11 := hide hg11
            have HRUN := hide (show (plStep S' ⟨⟨nm, i, az⟩, weak⟩).bind (plRun ((o.names.drop (j + 1)).map fN ++ defsG (defN ps) (ps.drop (i + 1)) (i + 1))) = F from HRU2.out)
            have p0 : wc.cell? ⟨gp, 0, none⟩ = some (.string (str nm)) := HBP.out.cell 0
            have p1 : wc.cell? ⟨gp, 1, none⟩ = some (.int .i64 (i : Int)) := HBP.out.cell 1
            have p2 : wc.cell? ⟨gp, 2, none⟩ = some (.int .i64 az) := HBP.out.cell 2
            have hfew : S'.out.length ≤ 700 := by have := HST10.out.few; omega
            clear hm11 hg11
            go_upto_block 4 with fail
            go_cut [7, 15, 16, 38] from 38 to 95 (fun s7 _ _ s38 wx => s38 = .int .i64 j ∧ ∃ out' A9 c9, s7 = .slice A9 (List.length out') c9 ∧ plStep S' ⟨⟨nm, i, az⟩, weak⟩ = some ⟨out', updS S'.strong nm (S'.strong nm || !weak)⟩ ∧ PlSt w1 gm1 gm2 (K' + 1) ⟨out', S'.strong⟩ A9 c9 wx ∧ Blk wx gn nmT #[.string (str nm), .int .i64 wh, .int .i64 pos, .bool weak])
            case first =>
              cases hidx : idxN S'.out nm with
              | none =>
                clear hl1
                have HSTEP := hide (show plStep S' ⟨⟨nm, i, az⟩, weak⟩ = some ⟨S'.out ++ [⟨nm, i, az⟩], updS S'.strong nm (S'.strong nm || !weak)⟩ by unfold plStep; rw [hidx])
                have HIDX := hide hidx
                have h12 := HST10.out.l2
                have hb11 := HBP.out.grown HG11.out (fun e => by injection e with e; omega)
                have hn11 := HB10.out.grown HG11.out (fun e => by injection e with e; omega)
                have HN11 := hide (hn11.alloc (.cells #[.string (str nm), .int .i64 (i : Int), .int .i64 az] plT))
                have y0 : W11.cell? ⟨gp, 0, none⟩ = some (.string (str nm)) := hb11.cell 0
                have y1 : W11.cell? ⟨gp, 1, none⟩ = some (.int .i64 (i : Int)) := hb11.cell 1
                have y2 : W11.cell? ⟨gp, 2, none⟩ = some (.int .i64 az) := hb11.cell 2
                have HRO := hide ((own_kept1 HST10.out.row HG11.out HST10.out.out_ne1).alloc (.cells #[.string (str nm), .int .i64 (i : Int), .int .i64 az] plT))
                have HXA := hide ((Ext.refl W11).alloc (.cells #[.string (str nm), .int .i64 (i : Int), .int .i64 az] plT))
                have HRW := hide ((Blk.new W11 plT #[.string (str nm), .int .i64 (i : Int), .int .i64 az]).rowsF' 1 3 rfl)
                have HL1 := hide (show S'.out.length + 1 ≤ maxLen by simp only [maxLen]; omega)
                have HL2 := hide (show (S'.out.length + 1) * 32 ≤ 140737488355328 by omega)
                have HON := hide (show ∀ u ∈ [Value.string (str nm), .int .i64 (i : Int), .int .i64 az], u.oneCell' = true by simp [Value.oneCell'])
                have HLO := hide (show gm2 + 1 ≤ (W11.alloc (.cells #[.string (str nm), .int .i64 (i : Int), .int .i64 az] plT)).heap.size from Nat.le_trans (Nat.le_trans HST10.out.m2.lt HG11.out.size) HXA.out.size)
                have HNE := hide (own_blk_ne HRO.out HN11.out (by decide)).symm
                clear hb11 hn11 hidx hl2
                go_wp2_with (at_builtin; refine wpList_append_any _ rfl (.tmp 71) (.tmp 73) 33 rfl (gm2 + 1) plT i0 _ 3 32 Try.underlying33 hi0 hz0 hz1 hz2 rfl (by decide) (.slice A8 S'.out.length c8) S'.out.length (S'.out.flatMap plC) rfl HRO.out _ _ 1 1 [.string (str nm), .int .i64 (i : Int), .int .i64 az] rfl HRW.out HON.out HL1.out HL2.out HLO.out ?_; intro A9 c9 w9 ho9 hg9 ha9; have HO9 := hide ho9; have HG9 := hide hg9; have HNN := hide (Blk.grown HN11.out hg9 HNE.out); clear ho9 hg9 ha9)
                go_meet
                exact ⟨rfl, S'.out ++ [⟨nm, i, az⟩], A9, c9, by simp, HSTEP.out, PlSt.more (p := ⟨nm, i, az⟩) HST10.out HIDX.out HM11.out HG11.out HO9.out HXA.out HG9.out, HNN.out⟩
              | some k =>
                clear hl1
                clear hrun1
                cases weak with
                | true =>
                  have HSTEP := hide (show plStep S' ⟨⟨nm, i, az⟩, true⟩ = some ⟨S'.out, updS S'.strong nm (S'.strong nm || !true)⟩ by unfold plStep; rw [hidx]; rfl)
                  clear hidx hl2
                  go_wp2_with fail
                  go_meet
                  exact ⟨rfl, S'.out, A8, c8, rfl, HSTEP.out, HST10.out.later (Nat.le_succ _), HB10.out⟩
                | false =>
                  cases hstr : S'.strong nm with
                  | true =>
                    rw [hstr] at hl2
                    have HFN2 := hide (show F = none by rw [← HRUN.out]; unfold plStep; rw [hidx]; simp [hstr])
                    have HXF := hide (HX1.out.trans HST10.out.ext)
                    clear hidx hstr
                    go_wp2_with fail
                    exact bodyPost_ret (v := .tuple #[.slice none 0 0, .int .i64 5]) (by simp [results, Try.results6, go_sem]) rfl ⟨HXF.out, .inr ⟨HFN2.out, rfl⟩⟩
                  | false =>
                    rw [hstr] at hl2
                    have HSTEP := hide (show plStep S' ⟨⟨nm, i, az⟩, false⟩ = some ⟨S'.out.set k ⟨nm, i, az⟩, updS S'.strong nm (S'.strong nm || !false)⟩ by unfold plStep; rw [hidx]; simp [hstr])
                    have HIDX := hide hidx
                    obtain ⟨hk1, hk2⟩ := idxN_lt _ _ _ hidx
                    obtain ⟨g8, rfl, hg81, hg82, hg83, hg84⟩ := own_addr HST10.out.row (by omega)
                    have hfl : ∀ j, j < 3 → k * 3 + j < (S'.out.flatMap plC).length := fun j hj => by rw [flat_length plC_len]; omega
                    obtain ⟨x0, fx0⟩ := own_cell HST10.out.row (k * 3) (List.getElem?_eq_getElem (hfl 0 (by omega)))
                    obtain ⟨x1, fx1⟩ := own_cell HST10.out.row (k * 3 + 1) (List.getElem?_eq_getElem (hfl 1 (by omega)))
                    obtain ⟨x2, fx2⟩ := own_cell HST10.out.row (k * 3 + 2) (List.getElem?_eq_getElem (hfl 2 (by omega)))
                    have HAN := hide (PlSt.anew (p := ⟨nm, i, az⟩) HST10.out HIDX.out)
                    have hne8 : g8 ≠ gn := fun e => own_blk_ne HST10.out.row HB10.out (by decide) (by rw [e]; rfl)
                    have HNN := hide (((HB10.out.far (p := ⟨g8, k * 3, none⟩) (fun e => hne8 e.symm) (.string (str nm))).far (p := ⟨g8, k * 3 + 1, none⟩) (fun e => hne8 e.symm) (.int .i64 (i : Int))).far (p := ⟨g8, k * 3 + 2, none⟩) (fun e => hne8 e.symm) (.int .i64 az))
                    clear hidx hstr
                    go_wp2_with fail
                    go_meet
                    exact ⟨rfl, S'.out.set k ⟨nm, i, az⟩, _, c8, by rw [List.length_set], HSTEP.out, HAN.out.later (Nat.le_succ _), HNN.out⟩
            case rest =>
              obtain ⟨rfl, out', A9, c9, rfl, hstep, hst', hbn⟩ := hcut
              have HSTN := hide hst'
              have hrun3 := HRUN.out
              rw [hstep, Option.bind_some] at hrun3
              have HRUN4 := hide hrun3
              have hl3 := HSTN.out.m2.look nm hnl
              obtain ⟨W12, hrun2, hm12, hg12⟩ := HSTN.out.m2.store HK9.out nm hnl (S'.strong nm || !weak)
              have HST12 := hide (PlSt.strong_ HSTN.out hm12 hg12 (Nat.le_succ _))
              have HB0 : wc.cell? ⟨gn, 0, none⟩ = some (.string (str nm)) := hbn.cell 0
              have HB3 : wc.cell? ⟨gn, 3, none⟩ = some (.bool weak) := hbn.cell 3
              clear hst' hstep hm12 hg12 hl1 hl2 hrun1 HM11 HG11 HRU2 HRUN hrun3 HST10 HB10 HBP hbn p0 p1 p2 b0 b3 HSTN
              generalize hz : (S'.strong nm || !weak) = z at hrun2
              generalize S'.strong nm = sg at *
              cases sg <;> cases weak <;> cases z <;> first | exact absurd hz (by decide) | clear hz
              all_goals
                go_wp2_with fail
                go_roundw
                case rel => exact ⟨j + 1, K' + 1 + 1, ⟨out', _⟩, A9, c9, by omega, by go_num, rfl, by omega, HRUN4.out, HST12.out⟩
                case measure => simp [intOf]; omega
        · obtain rfl : j = n3 := by have := HL3.out; omega
          have HRE := hide (show plRun (defsG (defN ps) (ps.drop (i + 1)) (i + 1)) S' = F by have := HRUN.out; rwa [List.drop_of_length_le (by rw [HL3.out]; omega), List.map_nil, List.nil_append] at this)
          go_wp2_with fail
          go_roundw
          case rel => exact ⟨i + 1, K', S', A8, c8, by omega, by go_num, rfl, by omega, HRE.out, HST.out⟩
          case measure => simp [intOf]; omega
    · obtain rfl : i = n := by omega
      have HRE := hide (show F = some S by rw [← HRUN.out, List.drop_of_length_le (by omega)]; rfl)
      have HLO := hide (own_mono HST.out.row (show w.heap.size ≤ gm2 + 1 by have := HBASE.out; have := HST.out.l2; have := HST.out.l1; have := HX1.out.size; omega))
      have HXF := hide (HX1.out.trans HST.out.ext)
      go_wp2_with fail
      exact bodyPost_ret (v := .tuple #[.slice A7 S.out.length c7, .int .i64 0]) (by simp [results, Try.results6, go_sem]) rfl ⟨HXF.out, .inl ⟨S, A7, c7, HRE.out, rfl, HLO.out⟩⟩
end Go.Proofs.Ytljlniehbenefaa
