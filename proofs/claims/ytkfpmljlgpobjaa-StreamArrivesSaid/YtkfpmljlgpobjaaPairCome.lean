/- The contract of (*pair).come. -/
import Derived.Test.YtkfpmljlgpobjaaPairOk
import Derived.StillTailTactics
import Derived.Outline
namespace Go.Proofs.Ytkfpmljlgpobjaa
open Go.RowKit
set_option linter.unusedVariables false

def ComeRel (w0 : World) (gp : Nat) (b : Nat → Nat) (d : PairD) (i : Nat) (ls : List (SegD × Value)) (vl : Value) (n : Nat) (v : Value) (wr : World) : Prop :=
  ∃ k : Nat, k ≤ n ∧ v = .int .i64 k ∧ ∃ L, PairM w0 gp L { d with e := upd d.e i (comeL (d.e i) ((ls.map (·.1)).take k)), y := upd d.y i [] } wr ∧ L.b = b ∧ wr.ownsRow w0.heap.size 49 5 vl n (ls.flatMap segC) ∧ (∀ x ∈ ls, SegAt wr w0.heap.size x) ∧ ∀ x ∈ ls, ∀ k, x.2.ownBlock = some k → ∀ j, j < 2 → ¬ foot (L.b j) (L.vo j) (L.vi j) k
def OuterRel (w0 : World) (gp : Nat) (b : Nat → Nat) (d : PairD) (i : Value) (wr : World) : Prop := (i = .int .i64 0 ∧ PairAt w0 gp b d wr) ∨ (i = .int .i64 1 ∧ PairAt w0 gp b (comeI d 0) wr) ∨ (i = .int .i64 2 ∧ PairAt w0 gp b (comeP d) wr)
set_option maxHeartbeats 4000000 in
set_option maxRecDepth 100000 in
theorem pair_come (w0 : World) (gp : Nat) (b : Nat → Nat) (d : PairD) (w : World) (h : PairAt w0 gp b d w) (hl : ∀ i, i < 2 → (d.y i).length ≤ 20000) :
    Calls Try.prog 30 #[.pointer (some ⟨gp, 0, none⟩)] w fun r w' => r = .returned (.tuple #[]) ∧ PairAt w0 gp b (comeP d) w' := by
  have HP := hide h
  have HLEN0 := hide (hl 0 (by omega))
  have HLEN1 := hide (show ((comeI d 0).y 1).length ≤ 20000 by
    have h0 : (comeI d 0).y 1 = d.y 1 := by simp [comeI, upd]
    rw [h0]; exact hl 1 (by omega))
  clear h hl
  go_enter Try.func30, Try.ntmps30
  go_wp2_with fail
  go_loopw [6] (OuterRel w0 gp b d) (fun i _ => 2 - (intOf i).toNat)
  case atStart => exact .inl ⟨rfl, HP.out⟩
  case round =>
    clear HP
    rcases hrel with ⟨rfl, hp⟩ | ⟨rfl, hp⟩ | ⟨rfl, hp⟩
    · have hp' : PairAt w0 gp b d wr := hp
      obtain ⟨L, h, hLb⟩ := hp'
      clear hp
      have HM := hide h
      have HLB := hide hLb
      obtain ⟨Ay, cy, hvy, hny, hcy, -⟩ := own_form (h.way 0 (by omega))
      have hll : (L.ls 0).length = (d.y 0).length := by rw [← h.segs 0 (by omega), List.length_map]
      have y0 : wr.cell? ⟨gp, 2, none⟩ = some (.slice Ay (d.y 0).length cy) := by rw [← hvy]; exact h.box.cell 2
      have yf : wr.frozen? ⟨gp, 2, none⟩ = false := h.box.frozen 2
      have hlen : (d.y 0).length ≤ 20000 := HLEN0.out
      obtain ⟨ny, hyn⟩ : ∃ x, (d.y 0).length = x := ⟨_, rfl⟩
      have HST := hide (show ∃ L2, PairM w0 gp L2 { d with e := upd d.e 0 (comeL (d.e 0) (((L.ls 0).map (·.1)).take 0)), y := upd d.y 0 [] } (wr.setCell ⟨gp, 2, none⟩ nilV) ∧ L2.b = b ∧ (wr.setCell ⟨gp, 2, none⟩ nilV).ownsRow w0.heap.size 49 5 (.slice Ay ny cy) ny ((L.ls 0).flatMap segC) ∧ (∀ x ∈ L.ls 0, SegAt (wr.setCell ⟨gp, 2, none⟩ nilV) w0.heap.size x) ∧ ∀ x ∈ L.ls 0, ∀ k, x.2.ownBlock = some k → ∀ j, j < 2 → ¬ foot (L2.b j) (L2.vo j) (L2.vi j) k from by
        obtain ⟨L2, h2, h3, h4, h5⟩ := h.emptied (i := 0) (by omega)
        have e0 : upd d.e 0 (comeL (d.e 0) (((L.ls 0).map (·.1)).take 0)) = d.e := by funext j; unfold upd comeL; split <;> simp_all
        rw [e0]
        refine ⟨L2, h2, by rw [h3]; exact hLb, ?_, ?_, ?_⟩
        · have := h.way 0 (by omega)
          rw [hvy, hyn] at this
          exact own_far (p := ⟨gp, 2, none⟩) this (own_blk_ne this h.box (by decide)) _
        · exact fun x hx => own_far (p := ⟨gp, 2, none⟩) (h.data 0 (by omega) x hx) (own_blk_ne (h.data 0 (by omega) x hx) h.box (by decide)) _
        · rw [h3, h4, h5]; exact h.free 0 (by omega))
      have HSEG := hide (h.segs 0 (by omega))
      have HSOK := hide (h.sok 0 (by omega))
      rw [hyn] at y0 hny hlen hll
      have HYN := hide hyn
      have HLL := hide hll
      unfold maxLen at hcy
      clear h hLb hvy hyn hll
      obtain ⟨wo, hwo⟩ : ∃ wo : World, wo = wr := ⟨_, rfl⟩
      rw [← hwo] at HST HM y0 yf
      rw [← hwo]
      clear hwo
      obtain ⟨ls, hls⟩ : ∃ x, L.ls 0 = x := ⟨_, rfl⟩
      rw [hls] at HST HSEG HLL
      clear hls HM HLB
      go_wp2_with fail
      go_loopw [22] (ComeRel w0 gp b d 0 ls (.slice Ay ny cy) ny) (fun v _ => ny - (intOf v).toNat)
      case atStart => exact ⟨0, Nat.zero_le _, rfl, HST.out⟩
      case round =>
        clear HST y0 yf
        obtain ⟨k, hk, rfl, L2, hM2, hb2, hrow, hdata, hfree⟩ := hrel
        have HM2 := hide hM2
        have HB2 := hide hb2
        have HROW := hide hrow
        have HDATA := hide hdata
        have HFREE := hide hfree
        by_cases hlt : k < ny
        · obtain ⟨bl, hA, -⟩ := own_addr hrow (by omega)
          subst hA
          have hkl : k < ls.length := by rw [HLL.out]; exact hlt
          have hrd := Reads.of_own hrow
          have r0 := Reads.elem segC_len hrd k hkl (by omega) 0 (by omega) (u := .int .u32 ls[k].1.seq) rfl
          have r1 := Reads.elem segC_len hrd k hkl (by omega) 1 (by omega) (u := .int .u32 ls[k].1.ack) rfl
          have r2 := Reads.elem segC_len hrd k hkl (by omega) 2 (by omega) (u := .int .i64 ls[k].1.fl) rfl
          have r3 := Reads.elem segC_len hrd k hkl (by omega) 3 (by omega) (u := .int .i64 ls[k].1.wd) rfl
          have r4 := Reads.elem segC_len hrd k hkl (by omega) 4 (by omega) (u := ls[k].2) rfl
          have hxm : ls[k] ∈ ls := List.getElem_mem hkl
          have hso : ls[k].1.Ok := HSOK.out _ (by rw [← HSEG.out]; exact List.mem_map.2 ⟨_, hxm, rfl⟩)
          have hsx := hdata _ hxm
          have hfx := hfree _ hxm
          have htk : (ls.map (·.1)).take (k + 1) = (ls.map (·.1)).take k ++ [ls[k].1] := by rw [List.take_succ_eq_append_getElem (by simpa using hkl), List.getElem_map]
          obtain ⟨x, hx⟩ : ∃ x, ls[k] = x := ⟨_, rfl⟩
          rw [hx] at r0 r1 r2 r3 r4 hso hsx hfx htk
          obtain ⟨⟨sq, sa, sf, sw, sd⟩, sv⟩ := x
          obtain ⟨Ax, cx, hsv, hnx, hcx, -⟩ := own_form hsx
          dsimp only at r0 r1 r2 r3 r4 hso hsx hfx htk hsv hnx
          subst hsv
          obtain ⟨nx, hnx'⟩ : ∃ x, sd.length = x := ⟨_, rfl⟩
          have hsx' : wr.ownsRow w0.heap.size 5 1 (.slice Ax nx cx) nx (bytesV sd) := by rw [← hnx']; exact hsx
          rw [hnx'] at r4 hfx
          have HSX := hide hsx'
          have HFX := hide hfx
          have HTK := hide htk
          have HSO := hide hso
          have HNX := hide hnx'
          have hn32 : nx ≤ 32 := by rw [← hnx']; exact hso.data
          have z0 : wr.cell? ⟨bl, k * 5, none⟩ = some (.int .u32 sq) := by simpa using r0
          have z1 : wr.cell? ⟨bl, k * 5 + 1, none⟩ = some (.int .u32 sa) := by simpa using r1
          have z2 : wr.cell? ⟨bl, k * 5 + 2, none⟩ = some (.int .i64 sf) := by simpa using r2
          have z3 : wr.cell? ⟨bl, k * 5 + 3, none⟩ = some (.int .i64 sw) := by simpa using r3
          have z4 : wr.cell? ⟨bl, k * 5 + 4, none⟩ = some (.slice Ax nx cx) := by simpa using r4
          clear hM2 hb2 hrow hdata hfree r0 r1 r2 r3 r4 hso hsx hsx' hfx htk hnx' hx hxm hrd hnx hcx hkl
          obtain ⟨ei, hei⟩ : ∃ x, comeL (d.e 0) ((ls.map (·.1)).take k) = x := ⟨_, rfl⟩
          have HEI := hide hei
          rw [hei] at HM2
          clear hei
          have hem : EndM wr (L2.b 0) ei (L2.vo 0) (L2.vi 0) := by have := HM2.out.end_ 0 (by omega); dsimp only at this; rw [upd_same] at this; exact this
          have hok : ei.Ok := by have := HM2.out.ok 0 (by omega); dsimp only at this; rw [upd_same] at this; exact this
          have HOK := hide hok
          have HCOME := hide (fun (W' : World) (hx : Ext wr W') => show Calls Try.prog 19 #[.pointer (some ⟨L2.b 0, 0, none⟩), segV sq sa sf sw (.slice Ax nx cx)] W' (fun r w5 => Ext wr W' ∧ EndRet W' (L2.b 0) (L2.vo 0) (L2.vi 0) (.int .i64 (comeN ei)) (comeE ei sq sa sf sw sd) r w5) from
            (come_any W' (L2.b 0) ei (L2.vo 0) (L2.vi 0) sq sa sf sw Ax nx cx sd (hem.ext hx) hok HSO.out.seq HSO.out.ack (by have := HSO.out.fl; dsimp only at this; omega) (by have := HSO.out.wd; dsimp only at this; omega) hn32 (own_mono (hx.own HSX.out) (Nat.zero_le _)) (fun q hq => HFX.out q hq 0 (by omega))).mono (fun r w5 h => ⟨hx, h⟩))
          have p0 : wr.cell? ⟨gp, 0, none⟩ = some (.pointer (some ⟨L2.b 0, 0, none⟩)) := HM2.out.box.cell 0
          have hHM : True := trivial
          clear hem hok
          go_upto_region 8 with fail
          have HXA := hide ((Ext.refl wr).alloc (.cells #[.int .u32 sq, .int .u32 sa, .int .i64 sf, .int .i64 sw, .slice Ax nx cx] 49))
          have hbx := Blk.new wr 49 #[.int .u32 sq, .int .u32 sa, .int .i64 sf, .int .i64 sw, .slice Ax nx cx]
          generalize wr.alloc (.cells #[.int .u32 sq, .int .u32 sa, .int .i64 sf, .int .i64 sw, .slice Ax nx cx] 49) = W at *
          have P0 : W.cell? ⟨gp, 0, none⟩ = some (.pointer (some ⟨L2.b 0, 0, none⟩)) := HXA.out.cell p0
          clear p0 z0 z1 z2 z3 z4
          obtain ⟨g5, hg5⟩ : ∃ x, wr.heap.size = x := ⟨_, rfl⟩
          rw [hg5] at hbx ⊢
          clear hg5
          have z0 : W.cell? ⟨g5, 0, none⟩ = some (.int .u32 sq) := hbx.cell 0
          have z1 : W.cell? ⟨g5, 1, none⟩ = some (.int .u32 sa) := hbx.cell 1
          have z2 : W.cell? ⟨g5, 2, none⟩ = some (.int .i64 sf) := hbx.cell 2
          have z3 : W.cell? ⟨g5, 3, none⟩ = some (.int .i64 sw) := hbx.cell 3
          have z4 : W.cell? ⟨g5, 4, none⟩ = some (.slice Ax nx cx) := hbx.cell 4
          clear hbx
          go_still_tail 7, (by kernel_rfl)
          go_wp2_with fail
          refine (HCOME.out _ (Ext.trans HXA.out (by first | exact (Ext.refl W).drew | exact (Ext.refl W).drewN _ | exact Ext.refl W))).mono ?_
          rintro r w5 ⟨hxw, rfl, hop⟩
          have HXW := hide hxw
          have HOP := hide hop
          clear hxw hop
          all_goals
            have HNX2 := hide (show ∃ k' : Nat, k' ≤ ny ∧ Value.int .i64 (((k + 1 : Nat) : Int)) = .int .i64 k' ∧ ∃ L, PairM w0 gp L { d with e := upd d.e 0 (comeL (d.e 0) ((ls.map (·.1)).take k')), y := upd d.y 0 [] } w5 ∧ L.b = b ∧ w5.ownsRow w0.heap.size 49 5 (.slice (some ⟨bl, 0, none⟩) ny cy) ny (ls.flatMap segC) ∧ (∀ x ∈ ls, SegAt w5 w0.heap.size x) ∧ ∀ x ∈ ls, ∀ q, x.2.ownBlock = some q → ∀ j, j < 2 → ¬ foot (L.b j) (L.vo j) (L.vi j) q from by
              have hM3 := HM2.out.extend HXW.out
              obtain ⟨L3, h1, h2, -, -, h5⟩ := hM3.endOp (i := 0) (by omega) (comeS_ok HOK.out HSO.out) HOP.out
              obtain ⟨vo', vi', -, hkp, -⟩ := HOP.out
              refine ⟨k + 1, by omega, rfl, L3, ?_, by rw [h2]; exact HB2.out, ?_, ?_, ?_⟩
              · rw [HTK.out, comeL_snoc, HEI.out]
                have e9 : upd (upd d.e 0 ei) 0 (comeS ei ⟨sq, sa, sf, sw, sd⟩) = upd d.e 0 (comeS ei ⟨sq, sa, sf, sw, sd⟩) := by funext j; unfold upd; split <;> rfl
                dsimp only at h1
                rw [e9] at h1
                exact h1
              · exact hkp.own (HXW.out.own HROW.out) (fun q hq => own_not_foot hM3 (HXW.out.own HROW.out) (by decide) (by decide) (by omega) hq)
              · exact fun x hx => hkp.own (HXW.out.own (HDATA.out x hx)) (fun q hq => HFREE.out x hx q hq 0 (by omega))
              · exact fun x hx q hq => h5 q (((HXW.out.own (HDATA.out x hx)).lt q hq).2) (HFREE.out x hx q hq))
            go_wp2_with fail
            go_roundw
            case rel => exact HNX2.out
            case measure => simp [intOf]; omega
        · have hk2 : k = ny := by omega
          subst hk2
          have HNEW := hide (show PairAt w0 gp b (comeI d 0) wr from by
            refine ⟨L2, ?_, hb2⟩
            have h9 := hM2
            have e9 : (ls.map (·.1)).take k = d.y 0 := by rw [HSEG.out]; exact List.take_of_length_le (by rw [HYN.out]; exact Nat.le_refl _)
            rw [e9] at h9
            exact h9)
          clear hM2 hb2 hrow hdata hfree
          go_wp2_with fail
          go_roundw
          case rel => exact .inr (.inl ⟨rfl, HNEW.out⟩)
          case measure => simp [intOf]
    · have hp' : PairAt w0 gp b (comeI d 0) wr := hp
      obtain ⟨L, h, hLb⟩ := hp'
      clear hp
      have HM := hide h
      have HLB := hide hLb
      obtain ⟨Ay, cy, hvy, hny, hcy, -⟩ := own_form (h.way 1 (by omega))
      have hll : (L.ls 1).length = ((comeI d 0).y 1).length := by rw [← h.segs 1 (by omega), List.length_map]
      have y0 : wr.cell? ⟨gp, 3, none⟩ = some (.slice Ay ((comeI d 0).y 1).length cy) := by rw [← hvy]; exact h.box.cell 3
      have yf : wr.frozen? ⟨gp, 3, none⟩ = false := h.box.frozen 3
      have hlen : ((comeI d 0).y 1).length ≤ 20000 := HLEN1.out
      obtain ⟨ny, hyn⟩ : ∃ x, ((comeI d 0).y 1).length = x := ⟨_, rfl⟩
      have HST := hide (show ∃ L2, PairM w0 gp L2 { (comeI d 0) with e := upd (comeI d 0).e 1 (comeL ((comeI d 0).e 1) (((L.ls 1).map (·.1)).take 0)), y := upd (comeI d 0).y 1 [] } (wr.setCell ⟨gp, 3, none⟩ nilV) ∧ L2.b = b ∧ (wr.setCell ⟨gp, 3, none⟩ nilV).ownsRow w0.heap.size 49 5 (.slice Ay ny cy) ny ((L.ls 1).flatMap segC) ∧ (∀ x ∈ L.ls 1, SegAt (wr.setCell ⟨gp, 3, none⟩ nilV) w0.heap.size x) ∧ ∀ x ∈ L.ls 1, ∀ k, x.2.ownBlock = some k → ∀ j, j < 2 → ¬ foot (L2.b j) (L2.vo j) (L2.vi j) k from by
        obtain ⟨L2, h2, h3, h4, h5⟩ := h.emptied (i := 1) (by omega)
        have e0 : upd (comeI d 0).e 1 (comeL ((comeI d 0).e 1) (((L.ls 1).map (·.1)).take 0)) = (comeI d 0).e := by funext j; unfold upd comeL; split <;> simp_all
        rw [e0]
        refine ⟨L2, h2, by rw [h3]; exact hLb, ?_, ?_, ?_⟩
        · have := h.way 1 (by omega)
          rw [hvy, hyn] at this
          exact own_far (p := ⟨gp, 3, none⟩) this (own_blk_ne this h.box (by decide)) _
        · exact fun x hx => own_far (p := ⟨gp, 3, none⟩) (h.data 1 (by omega) x hx) (own_blk_ne (h.data 1 (by omega) x hx) h.box (by decide)) _
        · rw [h3, h4, h5]; exact h.free 1 (by omega))
      have HSEG := hide (h.segs 1 (by omega))
      have HSOK := hide (h.sok 1 (by omega))
      rw [hyn] at y0 hny hlen hll
      have HYN := hide hyn
      have HLL := hide hll
      unfold maxLen at hcy
      clear h hLb hvy hyn hll
      obtain ⟨wo, hwo⟩ : ∃ wo : World, wo = wr := ⟨_, rfl⟩
      rw [← hwo] at HST HM y0 yf
      rw [← hwo]
      clear hwo
      obtain ⟨ls, hls⟩ : ∃ x, L.ls 1 = x := ⟨_, rfl⟩
      rw [hls] at HST HSEG HLL
      clear hls HM HLB
      go_wp2_with fail
      go_loopw [22] (ComeRel w0 gp b (comeI d 0) 1 ls (.slice Ay ny cy) ny) (fun v _ => ny - (intOf v).toNat)
      case atStart => exact ⟨0, Nat.zero_le _, rfl, HST.out⟩
      case round =>
        clear HST y0 yf
        obtain ⟨k, hk, rfl, L2, hM2, hb2, hrow, hdata, hfree⟩ := hrel
        have HM2 := hide hM2
        have HB2 := hide hb2
        have HROW := hide hrow
        have HDATA := hide hdata
        have HFREE := hide hfree
        by_cases hlt : k < ny
        · obtain ⟨bl, hA, -⟩ := own_addr hrow (by omega)
          subst hA
          have hkl : k < ls.length := by rw [HLL.out]; exact hlt
          have hrd := Reads.of_own hrow
          have r0 := Reads.elem segC_len hrd k hkl (by omega) 0 (by omega) (u := .int .u32 ls[k].1.seq) rfl
          have r1 := Reads.elem segC_len hrd k hkl (by omega) 1 (by omega) (u := .int .u32 ls[k].1.ack) rfl
          have r2 := Reads.elem segC_len hrd k hkl (by omega) 2 (by omega) (u := .int .i64 ls[k].1.fl) rfl
          have r3 := Reads.elem segC_len hrd k hkl (by omega) 3 (by omega) (u := .int .i64 ls[k].1.wd) rfl
          have r4 := Reads.elem segC_len hrd k hkl (by omega) 4 (by omega) (u := ls[k].2) rfl
          have hxm : ls[k] ∈ ls := List.getElem_mem hkl
          have hso : ls[k].1.Ok := HSOK.out _ (by rw [← HSEG.out]; exact List.mem_map.2 ⟨_, hxm, rfl⟩)
          have hsx := hdata _ hxm
          have hfx := hfree _ hxm
          have htk : (ls.map (·.1)).take (k + 1) = (ls.map (·.1)).take k ++ [ls[k].1] := by rw [List.take_succ_eq_append_getElem (by simpa using hkl), List.getElem_map]
          obtain ⟨x, hx⟩ : ∃ x, ls[k] = x := ⟨_, rfl⟩
          rw [hx] at r0 r1 r2 r3 r4 hso hsx hfx htk
          obtain ⟨⟨sq, sa, sf, sw, sd⟩, sv⟩ := x
          obtain ⟨Ax, cx, hsv, hnx, hcx, -⟩ := own_form hsx
          dsimp only at r0 r1 r2 r3 r4 hso hsx hfx htk hsv hnx
          subst hsv
          obtain ⟨nx, hnx'⟩ : ∃ x, sd.length = x := ⟨_, rfl⟩
          have hsx' : wr.ownsRow w0.heap.size 5 1 (.slice Ax nx cx) nx (bytesV sd) := by rw [← hnx']; exact hsx
          rw [hnx'] at r4 hfx
          have HSX := hide hsx'
          have HFX := hide hfx
          have HTK := hide htk
          have HSO := hide hso
          have HNX := hide hnx'
          have hn32 : nx ≤ 32 := by rw [← hnx']; exact hso.data
          have z0 : wr.cell? ⟨bl, k * 5, none⟩ = some (.int .u32 sq) := by simpa using r0
          have z1 : wr.cell? ⟨bl, k * 5 + 1, none⟩ = some (.int .u32 sa) := by simpa using r1
          have z2 : wr.cell? ⟨bl, k * 5 + 2, none⟩ = some (.int .i64 sf) := by simpa using r2
          have z3 : wr.cell? ⟨bl, k * 5 + 3, none⟩ = some (.int .i64 sw) := by simpa using r3
          have z4 : wr.cell? ⟨bl, k * 5 + 4, none⟩ = some (.slice Ax nx cx) := by simpa using r4
          clear hM2 hb2 hrow hdata hfree r0 r1 r2 r3 r4 hso hsx hsx' hfx htk hnx' hx hxm hrd hnx hcx hkl
          obtain ⟨ei, hei⟩ : ∃ x, comeL ((comeI d 0).e 1) ((ls.map (·.1)).take k) = x := ⟨_, rfl⟩
          have HEI := hide hei
          rw [hei] at HM2
          clear hei
          have hem : EndM wr (L2.b 1) ei (L2.vo 1) (L2.vi 1) := by have := HM2.out.end_ 1 (by omega); dsimp only at this; rw [upd_same] at this; exact this
          have hok : ei.Ok := by have := HM2.out.ok 1 (by omega); dsimp only at this; rw [upd_same] at this; exact this
          have HOK := hide hok
          have HCOME := hide (fun (W' : World) (hx : Ext wr W') => show Calls Try.prog 19 #[.pointer (some ⟨L2.b 1, 0, none⟩), segV sq sa sf sw (.slice Ax nx cx)] W' (fun r w5 => Ext wr W' ∧ EndRet W' (L2.b 1) (L2.vo 1) (L2.vi 1) (.int .i64 (comeN ei)) (comeE ei sq sa sf sw sd) r w5) from
            (come_any W' (L2.b 1) ei (L2.vo 1) (L2.vi 1) sq sa sf sw Ax nx cx sd (hem.ext hx) hok HSO.out.seq HSO.out.ack (by have := HSO.out.fl; dsimp only at this; omega) (by have := HSO.out.wd; dsimp only at this; omega) hn32 (own_mono (hx.own HSX.out) (Nat.zero_le _)) (fun q hq => HFX.out q hq 1 (by omega))).mono (fun r w5 h => ⟨hx, h⟩))
          have p0 : wr.cell? ⟨gp, 1, none⟩ = some (.pointer (some ⟨L2.b 1, 0, none⟩)) := HM2.out.box.cell 1
          have hHM : True := trivial
          clear hem hok
          go_upto_region 8 with fail
          have HXA := hide ((Ext.refl wr).alloc (.cells #[.int .u32 sq, .int .u32 sa, .int .i64 sf, .int .i64 sw, .slice Ax nx cx] 49))
          have hbx := Blk.new wr 49 #[.int .u32 sq, .int .u32 sa, .int .i64 sf, .int .i64 sw, .slice Ax nx cx]
          generalize wr.alloc (.cells #[.int .u32 sq, .int .u32 sa, .int .i64 sf, .int .i64 sw, .slice Ax nx cx] 49) = W at *
          have P0 : W.cell? ⟨gp, 1, none⟩ = some (.pointer (some ⟨L2.b 1, 0, none⟩)) := HXA.out.cell p0
          clear p0 z0 z1 z2 z3 z4
          obtain ⟨g5, hg5⟩ : ∃ x, wr.heap.size = x := ⟨_, rfl⟩
          rw [hg5] at hbx ⊢
          clear hg5
          have z0 : W.cell? ⟨g5, 0, none⟩ = some (.int .u32 sq) := hbx.cell 0
          have z1 : W.cell? ⟨g5, 1, none⟩ = some (.int .u32 sa) := hbx.cell 1
          have z2 : W.cell? ⟨g5, 2, none⟩ = some (.int .i64 sf) := hbx.cell 2
          have z3 : W.cell? ⟨g5, 3, none⟩ = some (.int .i64 sw) := hbx.cell 3
          have z4 : W.cell? ⟨g5, 4, none⟩ = some (.slice Ax nx cx) := hbx.cell 4
          clear hbx
          go_still_tail 7, (by kernel_rfl)
          go_wp2_with fail
          refine (HCOME.out _ (Ext.trans HXA.out (by first | exact (Ext.refl W).drew | exact (Ext.refl W).drewN _ | exact Ext.refl W))).mono ?_
          rintro r w5 ⟨hxw, rfl, hop⟩
          have HXW := hide hxw
          have HOP := hide hop
          clear hxw hop
          all_goals
            have HNX2 := hide (show ∃ k' : Nat, k' ≤ ny ∧ Value.int .i64 (((k + 1 : Nat) : Int)) = .int .i64 k' ∧ ∃ L, PairM w0 gp L { (comeI d 0) with e := upd (comeI d 0).e 1 (comeL ((comeI d 0).e 1) ((ls.map (·.1)).take k')), y := upd (comeI d 0).y 1 [] } w5 ∧ L.b = b ∧ w5.ownsRow w0.heap.size 49 5 (.slice (some ⟨bl, 0, none⟩) ny cy) ny (ls.flatMap segC) ∧ (∀ x ∈ ls, SegAt w5 w0.heap.size x) ∧ ∀ x ∈ ls, ∀ q, x.2.ownBlock = some q → ∀ j, j < 2 → ¬ foot (L.b j) (L.vo j) (L.vi j) q from by
              have hM3 := HM2.out.extend HXW.out
              obtain ⟨L3, h1, h2, -, -, h5⟩ := hM3.endOp (i := 1) (by omega) (comeS_ok HOK.out HSO.out) HOP.out
              obtain ⟨vo', vi', -, hkp, -⟩ := HOP.out
              refine ⟨k + 1, by omega, rfl, L3, ?_, by rw [h2]; exact HB2.out, ?_, ?_, ?_⟩
              · rw [HTK.out, comeL_snoc, HEI.out]
                have e9 : upd (upd (comeI d 0).e 1 ei) 1 (comeS ei ⟨sq, sa, sf, sw, sd⟩) = upd (comeI d 0).e 1 (comeS ei ⟨sq, sa, sf, sw, sd⟩) := by funext j; unfold upd; split <;> rfl
                dsimp only at h1
                rw [e9] at h1
                exact h1
              · exact hkp.own (HXW.out.own HROW.out) (fun q hq => own_not_foot hM3 (HXW.out.own HROW.out) (by decide) (by decide) (by omega) hq)
              · exact fun x hx => hkp.own (HXW.out.own (HDATA.out x hx)) (fun q hq => HFREE.out x hx q hq 1 (by omega))
              · exact fun x hx q hq => h5 q (((HXW.out.own (HDATA.out x hx)).lt q hq).2) (HFREE.out x hx q hq))
            go_wp2_with fail
            go_roundw
            case rel => exact HNX2.out
            case measure => simp [intOf]; omega
        · have hk2 : k = ny := by omega
          subst hk2
          have HNEW := hide (show PairAt w0 gp b (comeI (comeI d 0) 1) wr from by
            refine ⟨L2, ?_, hb2⟩
            have h9 := hM2
            have e9 : (ls.map (·.1)).take k = (comeI d 0).y 1 := by rw [HSEG.out]; exact List.take_of_length_le (by rw [HYN.out]; exact Nat.le_refl _)
            rw [e9] at h9
            exact h9)
          clear hM2 hb2 hrow hdata hfree
          go_wp2_with fail
          go_roundw
          case rel => exact .inr (.inr ⟨rfl, HNEW.out⟩)
          case measure => simp [intOf]
    · have HP := hide (show PairAt w0 gp b (comeP d) wr from hp)
      clear hp
      go_wp2_with fail
      (first | go_end0 | ((try simp only [Exit.inBlock, Exit.then]); refine bodyPost_ret (results_none rfl _ _ _) rfl ?_))
      exact ⟨rfl, HP.out⟩
end Go.Proofs.Ytkfpmljlgpobjaa
