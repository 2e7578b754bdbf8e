/- The walk of BindLoads. -/
import Derived.Test.YtljlniehbenefaaDoorBdLoadsM
import Derived.Test.YtljlniehbenefaaDoorBdLinked
import Derived.Test.YtljlniehbenefaaDoorBdByL
import Derived.Test.YtljlniehbenefaaDoorRest
namespace Go.Proofs.YtljlniehbenefaaDoor
open Go.RowKit
set_option linter.unusedVariables false

set_option maxHeartbeats 16000000 in
set_option maxRecDepth 100000 in
theorem loads_walk (A : Option Addr) (n c : Nat) (l : List RawP) (z : Int) (w : World) (h : PartsRd w A n l) (z1 : -9223372036854775808 ≤ z) (z2 : z ≤ 9223372036854775807) :
    Calls Tryd.prog 7 #[.slice A n c, .int .i64 z] w fun e w' => e = .returned (.bool true) ∧ Ext w w' := by
  obtain ⟨i0, hi0, hz0, hz1, hz2⟩ := info_parts nm_info
  have HP := hide h
  have HOB := hide (objects_sep A n c l w h)
  clear h
  go_enter Tryd.func7, Tryd.ntmps7
  go_wp2_with fail
  refine HOB.out.mono ?_
  rintro e w1 ⟨ps, A1, c1, rfl, hacc, hst, hsep⟩
  have hf := facts_of HP.out hacc
  have HF := hide hf
  have H8 := hide (plain8_of hacc)
  have HST := hide hst
  have HSEP := hide hsep
  have hn6 := hf.len
  clear hacc hst hsep hf HOB HP
  by_cases h0 : ps.length = 0
  · rw [h0]
    go_wp2_with fail
    refine (linked_ok w1).mono ?_
    rintro e w2 ⟨rfl, hx2⟩
    have HX2 := hide (HST.out.ext.trans hx2)
    clear hx2
    go_wp2_with fail
    go_ret
    exact ⟨rfl, HX2.out⟩
  · obtain ⟨g1, rfl, hg11, hg12, -⟩ := own_addr HST.out.row (by omega)
    have r1 := restZ_lo z (ps.length : Int) (by omega)
    have r2 := restZ_hi z (ps.length : Int) (by omega)
    obtain ⟨k, hk⟩ : ∃ k : Nat, restZ z (ps.length : Int) = (k : Int) := ⟨_, (Int.toNat_of_nonneg r1).symm⟩
    rw [hk] at r1 r2
    have hkl : k < ps.length := by omega
    have t0 : decide ((ps.length : Int) = 0) = false := decide_eq_false (by omega)
    have HK := hide hk
    have HRS := hide (rest_any z (ps.length : Int) w1 z1 z2 (by omega) (by omega))
    rw [hk] at HRS
    clear hk
    go_upto_region 4 with fail
    go_wp2_with fail
    refine HRS.out.mono ?_
    rintro e w2 ⟨rfl, rfl⟩
    obtain ⟨o, v, hpk⟩ : ∃ o v, ps[k] = (o, v) := ⟨_, _, rfl⟩
    obtain ⟨B1, m1, d1, B2, m2, d2, B3, m3, d3, B4, m4, d4⟩ := v
    have hkm := List.getElem_mem hkl
    have HNM : Hid (∀ (W w' : World) (A8 : Option Addr) (c8 : Nat), ObsSt w ps (some ⟨g1, 0, none⟩) c1 W → w'.ownsRow w.heap.size nmT 4 (.slice A8 (m3 + 1) c8) (m3 + 1) ((o.names ++ [nmStart]).flatMap nmC) → W.grownBy w' (Value.ownBlock (.slice B3 m3 d3)) → ObsSt w (ps.set k (addS o, ⟨B1, m1, d1, B2, m2, d2, A8, m3 + 1, c8, B4, m4, d4⟩)) (some ⟨g1, 0, none⟩) c1 (w'.setCell ⟨g1, k * 4 + 2, none⟩ (.slice A8 (m3 + 1) c8))) := hide (fun W w' A8 c8 h1 h2 h3 => by
      have h4 := ObsSt.named h1 HSEP.out k hkl (A8 := A8) (c8 := c8) (w' := w') (by rw [hpk]; exact h2) (by rw [hpk]; exact h3)
      rw [hpk] at h4
      exact h4)
    have HFS := hide (fun v' : ObV => facts_set HF.out H8.out k hkl v')
    have HSS := hide (fun v' : ObV => set_start H8.out k hkl v')
    have hnl := (H8.out _ hkm).1
    have hlb := (HST.out.each _ hkm).names.1
    rw [hpk] at HFS HSS hnl
    dsimp only at hnl
    have hl3 : o.names.length = m3 := by have := (HST.out.each _ hkm).rd.l3; rw [hpk] at this; exact this
    have hxa := (Ext.refl w1).alloc (.cells #[.string ⟨#[115, 116, 97, 114, 116]⟩, .int .i64 1, .int .i64 0, .bool false] nmT)
    have HSTA := hide (HST.out.to hxa)
    have HNR := hide (show (w1.alloc (.cells #[.string ⟨#[115, 116, 97, 114, 116]⟩, .int .i64 1, .int .i64 0, .bool false] nmT)).ownsRow w.heap.size nmT 4 (.slice B3 m3 d3) m3 (o.names.flatMap nmC) by have := (HSTA.out.each _ hkm).names; rw [hpk] at this; exact this)
    have q2 := Reads.elem obXC_len (Reads.of_own HST.out.row) k hkl (by omega) 2 (by omega) rfl
    rw [hpk] at q2
    dsimp only at q2
    rw [Nat.zero_add] at q2
    have HRW := hide ((Blk.new w1 nmT #[.string ⟨#[115, 116, 97, 114, 116]⟩, .int .i64 1, .int .i64 0, .bool false]).rowsF' 1 4 rfl)
    have HL1 := hide (show m3 + 1 ≤ maxLen by simp only [maxLen]; omega)
    have HL2 := hide (show (m3 + 1) * 40 ≤ 140737488355328 by omega)
    have HON := hide (show ∀ u ∈ [Value.string ⟨#[115, 116, 97, 114, 116]⟩, .int .i64 1, .int .i64 0, .bool false], u.oneCell' = true by simp [Value.oneCell'])
    have HOW := hide (fun (w8 : World) (hg8 : World.grownBy (w1.alloc (.cells #[.string ⟨#[115, 116, 97, 114, 116]⟩, .int .i64 1, .int .i64 0, .bool false] nmT)) w8 (Value.ownBlock (.slice B3 m3 d3))) => own_keptB HSTA.out.row hg8 (fun j hj e => own_own_ne HNR.out HSTA.out.row (by decide) j e hj))
    have HGE := hide (show (ps.flatMap obXC)[k * 4 + 2]? = some (.slice B3 m3 d3) by rw [flat_get obXC_len ps k 2 hkl (by omega), hpk]; rfl)
    clear hxa hpk hkm hlb HST
    go_wp2_with (at_builtin; refine wpList_append_any _ rfl (.tmp 28) (.tmp 30) 37 rfl w.heap.size nmT i0 _ 4 40 Tryd.underlying37 hi0 hz0 hz1 hz2 rfl (by decide) (.slice B3 m3 d3) m3 (o.names.flatMap nmC) rfl HNR.out _ _ 1 1 [.string ⟨#[115, 116, 97, 114, 116]⟩, .int .i64 1, .int .i64 0, .bool false] rfl HRW.out HON.out HL1.out HL2.out HSTA.out.ext.size ?_; intro A8 c8 w8 ho8 hg8 ha8; have HST8 := hide (HNM.out _ w8 A8 c8 HSTA.out (by rw [List.flatMap_append]; exact ho8) hg8); have hcf := own_cell (HOW.out w8 hg8) (k * 4 + 2) HGE.out; have hc8 := hcf.1; have hf8 := hcf.2; clear hcf)
    have HF2 := hide (HFS.out ⟨B1, m1, d1, B2, m2, d2, A8, m3 + 1, c8, B4, m4, d4⟩)
    have HS2 := hide (HSS.out ⟨B1, m1, d1, B2, m2, d2, A8, m3 + 1, c8, B4, m4, d4⟩)
    clear HFS HSS HNM HNR HRW HL1 HL2 HON HOW HGE HSTA ho8 hg8 ha8 hc8 hf8 q2 HF H8 HSEP hnl hl3
    obtain ⟨qs, hqs⟩ : ∃ qs, ps.set k (addS o, (⟨B1, m1, d1, B2, m2, d2, A8, m3 + 1, c8, B4, m4, d4⟩ : ObV)) = qs := ⟨_, rfl⟩
    have hql : qs.length = ps.length := by rw [← hqs, List.length_set]
    rw [hqs] at HST8 HF2
    have HS3 := hide (show ∀ j (hj : j < qs.length), ∀ n ∈ qs[j].1.names, n.name = startS → j = k ∧ n.wh = 1 ∧ n.pos = 0 by subst hqs; exact HS2.out)
    clear HS2 hqs
    have hg := HST8.out.good HF2.out.chk HF2.out.sm
    rw [hql] at hg
    have HG := hide hg
    have hfit := HF2.out.fits
    have HX8 := hide HST8.out.ext
    have HLK := hide (link_any (some ⟨g1, 0, none⟩) ps.length c1 qs _ HG.out (by omega) hfit)
    clear hg HST8
    generalize w8.setCell ⟨g1, k * 4 + 2, none⟩ (.slice A8 (m3 + 1) c8) = W10 at *
    refine HLK.out.mono ?_
    rintro e w11 ⟨hx11, hcase⟩
    have HX11 := hide (HX8.out.trans hx11)
    have HG11 := hide (HG.out.ext hx11)
    clear hx11 HLK HX8 HG
    rcases hcase with ⟨S, bs, pgs, Ai, ci, hS, hbp, hbl, he1, he2, hpg, hle, hle2, rfl, hri, hrd, hml⟩ | ⟨-, z', hz', rfl⟩
    case inr =>
      have hx12 := (Ext.refl w11).alloc (.cells #[.int .u32 0, .slice none 0 0] imT)
      have HX12 := hide (HX11.out.trans hx12)
      clear hx12
      rcases hz' with rfl | rfl
      all_goals
        go_wp2_with fail
        refine (linked_ok _).mono ?_
        rintro e w13 ⟨rfl, hx13⟩
        have HX13 := hide (HX12.out.trans hx13)
        clear hx13
        go_wp2_with fail
        go_ret
        exact ⟨rfl, HX13.out⟩
    case inl =>
      have hE := entry_start hS k HS3.out he1
      rw [hE] at he1 he2
      have hcab : cAt qs k ≤ 1024 := by
        have h1 := dAt_lo qs 0
        have h2 := dAt_le qs 0
        omega
      have hpc := pages_chk hpg hle hle2 hfit (Nat.le_trans (dAt_lo qs 0) (dAt_le qs 0)) (cAt qs k) (cAt_mod4 qs k) (by omega) (by omega)
      have HPC := hide hpc
      have HNUM := hide (show ∀ p ∈ pgs, p.Num from fun p hp => by
        obtain ⟨j, hj, rfl⟩ := List.mem_iff_getElem.1 hp
        exact (page_num (hpg j hj) (Nat.le_trans (Nat.le_of_lt hj) (Nat.le_trans hpc.1 (by decide)))).1)
      have HRI := hide hri
      have HCA := hide (show (spotsL qs)[k]? = some (cAt qs k, dAt qs k) by rw [List.getElem?_eq_getElem (show k < (spotsL qs).length by simp [spotsL]; omega)]; simp [spotsL])
      clear hS hbp hbl hpg hle hle2 hri hrd hpc HS3
      rw [hE]
      clear hE
      generalize cAt qs k = ca at *
      have hx12 := (Ext.refl w11).alloc (.cells #[.int .u32 (ca : Int), .slice Ai pgs.length ci] imT)
      have hb12 := Blk.new w11 imT #[.int .u32 (ca : Int), .slice Ai pgs.length ci]
      have HX12 := hide (HX11.out.trans hx12)
      have HE12 := hide hx12
      have HB12 := hide hb12
      have HG12 := hide (HG11.out.ext hx12)
      clear hx12 hb12
      go_wp2_with fail
      refine (linked_ok _).mono ?_
      rintro e w13 ⟨rfl, hx13⟩
      have HX13 := hide (HX12.out.trans hx13)
      have HE13 := hide (HE12.out.trans hx13)
      have HB13 := hide (HB12.out.ext hx13)
      have HG13 := hide (HG12.out.ext hx13)
      clear hx13 HX12 HE12 HB12 HG12
      have HSP := hide (spots_any (some ⟨g1, 0, none⟩) ps.length c1 qs w13 HG13.out (by omega) hfit)
      go_wp2_with fail
      refine HSP.out.mono ?_
      rintro e w14 ⟨As, cs, rfl, ho14, hx14⟩
      have HRS2 := hide (Reads.of_own ho14)
      have HX14 := hide (HX13.out.trans hx14)
      have HE14 := hide (HE13.out.trans hx14)
      have HB14 := hide (HB13.out.ext hx14)
      clear hx14 HX13 HE13 HB13 HSP ho14
      obtain ⟨bs', os, rfl, -⟩ := HRS2.out.addr (by omega) (by omega)
      have hsl : k < (spotsL qs).length := by simp [spotsL]; omega
      have s0 := Reads.elem spC_len HRS2.out k hsl (by omega) 0 (by omega) rfl
      rw [Nat.add_zero, show (spotsL qs)[k] = (ca, dAt qs k) from by have := HCA.out; rw [List.getElem?_eq_getElem hsl] at this; injection this] at s0
      dsimp only at s0
      have p0 : w14.cell? ⟨w11.heap.size, 0, none⟩ = some (.int .u32 (ca : Int)) := HB14.out.cell 0
      have p1 : w14.cell? ⟨w11.heap.size, 1, none⟩ = some (.slice Ai pgs.length ci) := HB14.out.cell 1
      have HCK := hide (fun (W : World) (hx : Ext w14 W) => ldcheck_any pgs Ai pgs.length ci w11.heap.size (ca : Int) W ((HE14.out.trans hx).reads HRI.out (Nat.le_refl _)) (HE14.out.trans hx).size HNUM.out hml (by omega) (by omega))
      have hql2 : (qs.length : Int) = (ps.length : Int) := by rw [hql]
      have hca : IntKind.i64.wrap (ca : Int) = (ca : Int) := by rw [IntKind.wrap_i64]; omega
      go_upto_region 12 with fail
      go_region_held3 (fun w' => w'.cell? ⟨w11.heap.size, 0, none⟩ = some (.int .u32 (ca : Int)) ∧ w'.cell? ⟨w11.heap.size, 1, none⟩ = some (.slice Ai pgs.length ci) ∧ w'.cell? ⟨bs', os + k * 2, none⟩ = some (.int .i64 (ca : Int)))
        (first | exact ⟨p0, p1, s0⟩ | (refine ⟨Ext.cell (w := w14) ?_ p0, Ext.cell (w := w14) ?_ p1, Ext.cell (w := w14) ?_ s0⟩ <;> ((repeat (first | with_reducible exact Ext.refl _ | with_reducible assumption | with_reducible refine Ext.alloc ?_ _ | with_reducible refine Ext.drew ?_ | with_reducible refine Ext.drewN ?_ _ | with_reducible refine Ext.setCell ?_ (by first | exact Nat.le_refl _ | assumption | (simp; done) | omega) _ | with_reducible refine Ext.trans ?_ (by with_reducible assumption))); done)))
        (first
          | (go_at_call_of 22 (Value.agg #[.int .u32 (ca : Int), .slice Ai pgs.length ci]); refine (HCK.out _ (by ((repeat (first | with_reducible exact Ext.refl _ | with_reducible assumption | with_reducible refine Ext.alloc ?_ _ | with_reducible refine Ext.drew ?_ | with_reducible refine Ext.drewN ?_ _ | with_reducible refine Ext.setCell ?_ (by first | exact Nat.le_refl _ | assumption | (simp; done) | omega) _ | with_reducible refine Ext.trans ?_ (by with_reducible assumption))); done))).mono ?_; rintro e w15 ⟨z', rfl, hz, hx15⟩; obtain rfl := chk_zero hz HPC.out; clear hz)
          | fail)
      all_goals
        go_wp2_with fail
        go_ret
        exact ⟨rfl, HX14.out.trans (by ((repeat (first | with_reducible exact Ext.refl _ | with_reducible assumption | with_reducible refine Ext.alloc ?_ _ | with_reducible refine Ext.drew ?_ | with_reducible refine Ext.drewN ?_ _ | with_reducible refine Ext.setCell ?_ (by first | exact Nat.le_refl _ | assumption | (simp; done) | omega) _ | with_reducible refine Ext.trans ?_ (by with_reducible assumption))); done))⟩
end Go.Proofs.YtljlniehbenefaaDoor
