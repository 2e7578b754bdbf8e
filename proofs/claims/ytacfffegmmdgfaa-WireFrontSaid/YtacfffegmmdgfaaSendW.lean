/- The contract of (*line).send. -/
import Derived.Test.YtacfffegmmdgfaaLineOps
import Derived.Outline
namespace Go.Proofs.Ytacfffegmmdgfaa
open Go.RowKit
set_option linter.unusedVariables false

def SendOut (w0 : World) (gl : Nat) (b : Nat → Nat) (d : LineD) (i : Value) (wr : World) : Prop := (i = .int .i64 0 ∧ LineAt w0 gl b d wr) ∨ (i = .int .i64 1 ∧ LineAt w0 gl b (sendI d 0) wr) ∨ (i = .int .i64 2 ∧ LineAt w0 gl b (sendP d) wr)
def SendIn (w0 : World) (gl : Nat) (b : Nat → Nat) (d1 : LineD) (i : Nat) (l : List SegD) (T1 : Nat → Nat) (w1 : World) (v : Value) (wr : World) : Prop :=
  ∃ q : Nat, q ≤ l.length ∧ v = .int .i64 q ∧ ∃ L, LineM w0 gl L { d1 with y := lay d1.y i (l.take q) } wr ∧ L.b = b ∧ KeepF (fun k => k = gl ∨ T1 k = 6) w1 wr ∧ ∀ k, k < w1.heap.size → L.T k = T1 k
set_option maxHeartbeats 8000000 in
set_option maxRecDepth 100000 in
theorem send_any (w0 : World) (gl : Nat) (b : Nat → Nat) (d : LineD) (w : World) (h : LineAt w0 gl b d w) :
    Calls Try.prog 14 #[.pointer (some ⟨gl, 0, none⟩)] w fun r w' => r = .returned (.tuple #[]) ∧ LineAt w0 gl b (sendP d) w' := by
  obtain ⟨i0, hi0, hz0, hz1, hz2⟩ := info_parts letter_info
  have HP := hide h
  have hc : w.cell? ⟨gl, 0, none⟩ = some (.pointer (some ⟨b 0, 0, none⟩)) ∧ w.cell? ⟨gl, 1, none⟩ = some (.pointer (some ⟨b 1, 0, none⟩)) := by
    obtain ⟨L, h1, h2⟩ := h
    subst h2
    exact ⟨h1.box.cell 0, h1.box.cell 1⟩
  obtain ⟨p0, p1⟩ := hc
  clear h
  go_enter Try.func14, Try.ntmps14
  go_wp2_with fail
  go_loopw [12] (SendOut w0 gl b d) (fun i _ => 2 - (intOf i).toNat)
  case atStart => exact .inl ⟨rfl, HP.out⟩
  case round =>
    clear p0 p1 HP
    rcases hrel with ⟨rfl, hp⟩ | ⟨rfl, hp⟩ | ⟨rfl, hp⟩
    · obtain ⟨L, h, hLb⟩ := hp
      obtain ⟨wo, rfl⟩ : ∃ wo : World, wo = wr := ⟨_, rfl⟩
      obtain ⟨D, hD⟩ : ∃ D, d = D := ⟨_, rfl⟩
      rw [hD] at h
      have HD := hide hD
      have HM := hide h
      have HLB := hide hLb
      have HEND := hide (h.end_ 0 (by omega))
      have HOK := hide (h.ok 0 (by omega))
      have hbi : b 0 = L.b 0 := by rw [hLb]
      rw [hbi]
      obtain ⟨gi, hgi⟩ : ∃ x, L.b 0 = x := ⟨_, rfl⟩
      rw [hgi] at HEND ⊢
      have HGI := hide hgi
      clear h hLb hgi hbi hD
      have hidx : ∀ (x y : Value) (W : World), (Instr.index 43 (.agg #[x, y]) (.int .i64 0)).run Try.prog W = .ok x W := fun _ _ _ => by kernel_rfl
      have hw1 : IntKind.i64.wrap (1 - 0) = 1 := by decide
      have hw2 : IntKind.i64.wrap 1 = 1 := by decide
      go_wp2_with fail
      refine (out_any wo gi (D.e 0) (L.vo 0) (L.vi 0) HEND.out HOK.out).mono ?_
      rintro r w1 ⟨A1, c1, rfl, hat⟩
      obtain ⟨L1, hm1, hb1, hy1, hls1, ht1⟩ := HM.out.outed (i := 0) (by omega) (by rw [HGI.out]; exact hat)
      obtain ⟨ls, hls, hrow, hseg⟩ := hat.segs
      have hsok : ∀ s ∈ (outE (D.e 0)).2, s.Ok := (out_ok HOK.out).2
      obtain ⟨l, hl⟩ : ∃ x, (outE (D.e 0)).2 = x := ⟨_, rfl⟩
      have HL := hide hl
      rw [hl] at hls hrow hsok ⊢
      obtain ⟨n1, hn1⟩ : ∃ x, l.length = x := ⟨_, rfl⟩
      rw [hn1] at hrow ⊢
      have HN1 := hide hn1
      obtain ⟨d1, hd1⟩ : ∃ x, ({ D with e := upd D.e 0 (outE (D.e 0)).1 } : LineD) = x := ⟨_, rfl⟩
      rw [hd1] at hm1
      have HD1 := hide hd1
      have hY1 : d1.y = D.y := by rw [← hd1]
      have HY1 := hide hY1
      have hseg8 : ∀ x ∈ ls, ∀ k, x.2.ownBlock = some k → L1.T k = 0 := fun x hx k hv => by rw [ht1]; exact newT_new ((hseg x hx).lt k hv).1
      have hrow8 : ∀ k, Value.ownBlock (.slice A1 n1 c1) = some k → L1.T k = 0 := fun k hv => by rw [ht1]; exact newT_new (hrow.lt k hv).1
      have HTB := hide hm1.tb
      have HM1 := hide hm1
      have HB1 := hide (show L1.b = b by rw [hb1, HLB.out])
      have HLS := hide hls
      have HROW := hide hrow
      have HSEG := hide hseg
      have HSOK := hide hsok
      have HS8 := hide hseg8
      have HR8 := hide hrow8
      have hle1 := own_le hrow
      have HLE1 := hide hle1
      have hn64 : n1 ≤ c1 ∧ c1 ≤ 9223372036854775807 := hle1
      clear hat hm1 hb1 hy1 hls1 ht1 hls hrow hseg hsok hl hn1 hd1 hY1 hseg8 hrow8 hle1 HEND
      go_wp2_with fail
      go_loopw [19] (SendIn w0 gl b d1 0 l L1.T w1) (fun v _ => n1 - (intOf v).toNat)
      case atStart => exact ⟨0, Nat.zero_le _, rfl, L1, by rw [List.take_zero, lay_nil]; exact HM1.out, HB1.out, KeepF.refl _ _, fun _ _ => rfl⟩
      case round =>
        obtain ⟨q, hq, rfl, L2, hm2, hb2, hk2, ht2⟩ := hrel
        have HM2 := hide hm2
        have HB2 := hide hb2
        have HK2 := hide hk2
        have HT2 := hide ht2
        rw [HN1.out] at hq
        clear hm2 hb2 hk2 ht2 HM1
        by_cases hlt : q < n1
        · have hql : q < ls.length := by
            have := congrArg List.length HLS.out
            rw [List.length_map, HN1.out] at this
            omega
          have hrow2 : wr.ownsRow wo.heap.size 60 5 (.slice A1 n1 c1) n1 (ls.flatMap segC) := HK2.out.own HROW.out (fun k hv hf => by
            have h1 := HR8.out k hv
            rcases hf with rfl | h2
            · rw [HTB.out] at h1; omega
            · omega)
          obtain ⟨gs, hgs, -⟩ := own_addr hrow2 (by omega)
          subst hgs
          have hrd := Reads.of_own hrow2
          have r0 := Reads.elem segC_len hrd q hql (by omega) 0 (by omega) (u := .int .u32 ls[q].1.seq) rfl
          have r1 := Reads.elem segC_len hrd q hql (by omega) 1 (by omega) (u := .int .u32 ls[q].1.ack) rfl
          have r2 := Reads.elem segC_len hrd q hql (by omega) 2 (by omega) (u := .int .i64 ls[q].1.fl) rfl
          have r3 := Reads.elem segC_len hrd q hql (by omega) 3 (by omega) (u := .int .i64 ls[q].1.wd) rfl
          have r4 := Reads.elem segC_len hrd q hql (by omega) 4 (by omega) (u := ls[q].2) rfl
          have hxm : ls[q] ∈ ls := List.getElem_mem hql
          have hlq : l[q]? = some ls[q].1 := by rw [← HLS.out, List.getElem?_map, List.getElem?_eq_getElem hql]; rfl
          have hso : ls[q].1.Ok := HSOK.out _ (List.mem_of_getElem? hlq)
          have hsx : wr.ownsRow wo.heap.size 5 1 ls[q].2 ls[q].1.data.length (bytesV ls[q].1.data) := HK2.out.own (HSEG.out _ hxm) (fun k hv hf => by
            have h1 := HS8.out _ hxm k hv
            rcases hf with rfl | h2
            · rw [HTB.out] at h1; omega
            · omega)
          obtain ⟨x, hx⟩ : ∃ x, ls[q] = x := ⟨_, rfl⟩
          rw [hx] at r0 r1 r2 r3 r4 hlq hso hsx
          obtain ⟨⟨zq, za, zf, zw, zd⟩, sv⟩ := x
          obtain ⟨As, cs, hsv, hns, hcs, -⟩ := own_form hsx
          dsimp only at r0 r1 r2 r3 r4 hlq hso hsx hsv hns
          subst hsv
          obtain ⟨ns, hns'⟩ : ∃ x, zd.length = x := ⟨_, rfl⟩
          have hsx' : wr.ownsRow wo.heap.size 5 1 (.slice As ns cs) ns (bytesV zd) := by rw [← hns']; exact hsx
          rw [hns'] at r4
          have HNS := hide hns'
          have HRDS := hide (Reads.of_own hsx')
          have HSO := hide hso
          have HLQ := hide hlq
          have hn32 : ns ≤ 32 := by rw [← hns']; exact hso.data
          have y1 : wr.cell? ⟨gs, q * 5, none⟩ = some (.int .u32 zq) := by simpa using r0
          have y2 : wr.cell? ⟨gs, q * 5 + 1, none⟩ = some (.int .u32 za) := by simpa using r1
          have y3 : wr.cell? ⟨gs, q * 5 + 2, none⟩ = some (.int .i64 zf) := by simpa using r2
          have y4 : wr.cell? ⟨gs, q * 5 + 3, none⟩ = some (.int .i64 zw) := by simpa using r3
          have y5 : wr.cell? ⟨gs, q * 5 + 4, none⟩ = some (.slice As ns cs) := by simpa using r4
          have hway := HM2.out.way
          obtain ⟨Ay, cy, hvy, hny, hcy, -⟩ := own_form hway
          have y0 : wr.cell? ⟨gl, 10, none⟩ = some (.slice Ay (lay d1.y 0 (l.take q)).length cy) := by
            rw [← hvy]
            exact HM2.out.box.cell 10
          have yf : wr.frozen? ⟨gl, 10, none⟩ = false := HM2.out.box.frozen 10
          rw [hvy] at hway
          obtain ⟨ny, hyn⟩ : ∃ x, (lay d1.y 0 (l.take q)).length = x := ⟨_, rfl⟩
          have hyn2 : (({ d1 with y := lay d1.y 0 (l.take q) } : LineD).y).length = ny := hyn
          rw [hyn] at y0
          rw [hyn2] at hway hny hvy
          have HVY := hide hvy
          have HYN := hide hyn
          have HWAY := hide hway
          have hs0 : w0.heap.size ≤ wr.heap.size := HM2.out.ext.size
          have hgl : gl < wr.heap.size := HM2.out.box.lt
          have HTK := hide (show l.take (q + 1) = l.take q ++ [⟨zq, za, zf, zw, zd⟩] by rw [List.take_add_one, HLQ.out]; rfl)
          clear r0 r1 r2 r3 r4 hxm hlq hso hsx hsx' hx hrd hns hcs hcy hny hvy hyn hyn2 hway hrow2 hns'
          by_cases h64 : ny < 64
          · have hI : (ny : Int) < 64 := by omega
            go_wp2_with fail
            have HXA := hide ((Ext.refl wr).alloc (.cells #[.int .u32 zq, .int .u32 za, .int .i64 zf, .int .i64 zw, .slice As ns cs] 60))
            have hsz : wr.heap.size ≤ (wr.alloc (.cells #[.int .u32 zq, .int .u32 za, .int .i64 zf, .int .i64 zw, .slice As ns cs] 60)).heap.size := by simp
            generalize wr.alloc (.cells #[.int .u32 zq, .int .u32 za, .int .i64 zf, .int .i64 zw, .slice As ns cs] 60) = wa at *
            refine (encode_seg ⟨zq, za, zf, zw, zd⟩ HSO.out As ns cs _ _ (HXA.out.reads HRDS.out (Nat.le_refl _)) hsz HNS.out).mono ?_
            rintro r w3 ⟨A3, c3, rfl, hb3, hx3⟩
            have HX3 := hide (HXA.out.trans hx3)
            have HB3 := hide (own_mono hb3 hsz)
            clear hb3 hx3 HXA hsz
            have y0' := HX3.out.cell y0
            have yf' := (HX3.out.frozen y0).trans yf
            have HW3 := hide (HX3.out.own HWAY.out)
            have HBX3 := hide (HM2.out.box.ext HX3.out)
            have hs3 : w0.heap.size ≤ w3.heap.size := Nat.le_trans hs0 HX3.out.size
            have HEL := hide (Blk.new w3 64 #[.int .i64 1, .slice A3 (14 + ns) c3])
            clear y0 yf y1 y2 y3 y4 y5
            go_wp2_with (at_builtin; refine wpList_append_any _ rfl (.tmp 42) (.tmp 47) _ rfl w0.heap.size 64 i0 _ 2 32 Try.underlying44 hi0 hz0 hz1 hz2 rfl (by omega) (.slice Ay ny cy) ny (L2.ls.flatMap letC) (by rfl) (Ext.own (w := w3) (by ((repeat (first | with_reducible exact Ext.refl _ | with_reducible assumption | with_reducible refine Ext.alloc ?_ _ | with_reducible refine Ext.drew ?_ | with_reducible refine Ext.drewN ?_ _ | with_reducible refine Ext.setCell ?_ (by first | exact Nat.le_refl _ | assumption | (simp; done) | omega) _ | with_reducible refine Ext.trans ?_ (by with_reducible assumption))); done)) HW3.out) _ _ 1 1 (letC ((1, ⟨zq, za, zf, zw, zd⟩), .slice A3 (14 + ns) c3)) (by rfl) HEL.out.reads2 (by simp [letC, Value.oneCell']) (by simp only [maxLen]; omega) (by omega) (Nat.le_trans hs3 (Ext.size (w := w3) (by ((repeat (first | with_reducible exact Ext.refl _ | with_reducible assumption | with_reducible refine Ext.alloc ?_ _ | with_reducible refine Ext.drew ?_ | with_reducible refine Ext.drewN ?_ _ | with_reducible refine Ext.setCell ?_ (by first | exact Nat.le_refl _ | assumption | (simp; done) | omega) _ | with_reducible refine Ext.trans ?_ (by with_reducible assumption))); done)))) ?_; intro A7 c7 w7 ho7 hg7 ha7; have n5 : w7.cell? ⟨gl, 10, none⟩ = some (.slice Ay ny cy) := hg7.cell (Ext.cell (w := w3) (by ((repeat (first | with_reducible exact Ext.refl _ | with_reducible assumption | with_reducible refine Ext.alloc ?_ _ | with_reducible refine Ext.drew ?_ | with_reducible refine Ext.drewN ?_ _ | with_reducible refine Ext.setCell ?_ (by first | exact Nat.le_refl _ | assumption | (simp; done) | omega) _ | with_reducible refine Ext.trans ?_ (by with_reducible assumption))); done)) y0') (fun e => own_blk_ne HW3.out HBX3.out (by decide) e.symm); have nf : w7.frozen? ⟨gl, 10, none⟩ = false := (Blk.grown (Blk.ext HBX3.out (by ((repeat (first | with_reducible exact Ext.refl _ | with_reducible assumption | with_reducible refine Ext.alloc ?_ _ | with_reducible refine Ext.drew ?_ | with_reducible refine Ext.drewN ?_ _ | with_reducible refine Ext.setCell ?_ (by first | exact Nat.le_refl _ | assumption | (simp; done) | omega) _ | with_reducible refine Ext.trans ?_ (by with_reducible assumption))); done))) hg7 (fun e => own_blk_ne HW3.out HBX3.out (by decide) e.symm)).frozen 10)
            have HREL := hide (show ∃ L, LineM w0 gl L { d1 with y := lay d1.y 0 (l.take (q + 1)) } (w7.setCell ⟨gl, 10, none⟩ (.slice A7 (ny + 1) c7)) ∧ L.b = b ∧ KeepF (fun k => k = gl ∨ L1.T k = 6) w1 (w7.setCell ⟨gl, 10, none⟩ (.slice A7 (ny + 1) c7)) ∧ ∀ k, k < w1.heap.size → L.T k = L1.T k from by
              obtain ⟨L3, h1, h2, h3, h4⟩ := HM2.out.pushed (j := 1) (s := ⟨zq, za, zf, zw, zd⟩) (vb := .slice A3 (14 + ns) c3) (HX3.out.trans ((Ext.refl w3).alloc (.cells #[.int .i64 1, .slice A3 (14 + ns) c3] 64))) (by omega) HSO.out (by
                  have h9 := (((Ext.refl w3).alloc (.cells #[.int .i64 1, .slice A3 (14 + ns) c3] 64))).own (own_mono HB3.out hs0)
                  have h8 := HNS.out
                  subst h8
                  exact h9) (fun k hk => by
                  have h9 := HB3.out.lt k hk
                  refine ⟨Nat.lt_of_lt_of_le h9.2 (((Ext.refl w3).alloc (.cells #[.int .i64 1, .slice A3 (14 + ns) c3] 64))).size, fun h8 => ?_⟩
                  have := h9.1
                  omega) HVY.out HYN.out ho7 hg7 ha7
              refine ⟨L3, ?_, h2.trans HB2.out, HK2.out.trans h3 (fun x hx hf => ?_), fun k hk => ?_⟩
              · have e : lay d1.y 0 (l.take (q + 1)) = lay d1.y 0 (l.take q) ++ [(1, ⟨zq, za, zf, zw, zd⟩)] := by
                  rw [HTK.out, lay_snoc, if_pos (by rw [HYN.out]; exact h64)]
                rw [e]
                exact h1
              · rcases hf with h9 | h9
                · exact .inl h9
                · rw [HT2.out x hx] at h9
                  exact .inr h9
              · rw [h4 k (Nat.lt_of_lt_of_le hk HK2.out.size), HT2.out k hk])
            clear ho7 hg7 ha7 n5 nf y0' yf'
            go_roundw
            case rel =>
              obtain ⟨L3, h1, h2, h3, h4⟩ := HREL.out
              exact ⟨q + 1, by rw [HN1.out]; omega, by go_num, L3, h1, h2, h3, h4⟩
            case measure => simp [intOf]; omega
          · have hI : ¬ ((ny : Int) < 64) := by omega
            go_wp2_with fail
            have HXA := hide ((Ext.refl wr).alloc (.cells #[.int .u32 zq, .int .u32 za, .int .i64 zf, .int .i64 zw, .slice As ns cs] 60))
            have hsz : wr.heap.size ≤ (wr.alloc (.cells #[.int .u32 zq, .int .u32 za, .int .i64 zf, .int .i64 zw, .slice As ns cs] 60)).heap.size := by simp
            generalize wr.alloc (.cells #[.int .u32 zq, .int .u32 za, .int .i64 zf, .int .i64 zw, .slice As ns cs] 60) = wa at *
            refine (encode_seg ⟨zq, za, zf, zw, zd⟩ HSO.out As ns cs _ _ (HXA.out.reads HRDS.out (Nat.le_refl _)) hsz HNS.out).mono ?_
            rintro r w3 ⟨A3, c3, rfl, hb3, hx3⟩
            have HX3 := hide (HXA.out.trans hx3)
            have HB3 := hide (own_mono hb3 hsz)
            clear hb3 hx3 HXA hsz
            have y0' := HX3.out.cell y0
            clear y0 yf y1 y2 y3 y4 y5
            go_wp2_with fail
            have HREL := hide (show LineM w0 gl L2 { d1 with y := lay d1.y 0 (l.take (q + 1)) } w3 from by
              rw [HTK.out, lay_snoc, if_neg (by rw [HYN.out]; exact h64)]
              exact HM2.out.extend HX3.out)
            go_roundw
            case rel => exact ⟨q + 1, by rw [HN1.out]; omega, by go_num, L2, HREL.out, HB2.out, HK2.out.trans (KeepF.of_ext (F := fun _ => False) HX3.out) (fun _ _ h => h.elim), HT2.out⟩
            case measure => simp [intOf]; omega
        · obtain rfl : q = n1 := by omega
          go_wp2_with fail
          go_roundw
          case rel =>
            have e : ({ d1 with y := lay d1.y 0 (l.take q) } : LineD) = sendI D 0 := by
              rw [List.take_of_length_le (by rw [HN1.out]; exact Nat.le_refl _), ← HL.out, ← HD1.out]
              rfl
            have HM3 := HM2.out
            rw [e] at HM3
            refine .inr (.inl ⟨by go_num, L2, ?_, HB2.out⟩)
            rw [HD.out]; exact HM3
          case measure => simp [intOf]
    · obtain ⟨L, h, hLb⟩ := hp
      obtain ⟨wo, rfl⟩ : ∃ wo : World, wo = wr := ⟨_, rfl⟩
      obtain ⟨D, hD⟩ : ∃ D, sendI d 0 = D := ⟨_, rfl⟩
      rw [hD] at h
      have HD := hide hD
      have HM := hide h
      have HLB := hide hLb
      have HEND := hide (h.end_ 1 (by omega))
      have HOK := hide (h.ok 1 (by omega))
      have hbi : b 1 = L.b 1 := by rw [hLb]
      rw [hbi]
      obtain ⟨gi, hgi⟩ : ∃ x, L.b 1 = x := ⟨_, rfl⟩
      rw [hgi] at HEND ⊢
      have HGI := hide hgi
      clear h hLb hgi hbi hD
      have hidx : ∀ (x y : Value) (W : World), (Instr.index 43 (.agg #[x, y]) (.int .i64 1)).run Try.prog W = .ok y W := fun _ _ _ => by kernel_rfl
      have hw1 : IntKind.i64.wrap (1 - 1) = 0 := by decide
      have hw2 : IntKind.i64.wrap 0 = 0 := by decide
      go_wp2_with fail
      refine (out_any wo gi (D.e 1) (L.vo 1) (L.vi 1) HEND.out HOK.out).mono ?_
      rintro r w1 ⟨A1, c1, rfl, hat⟩
      obtain ⟨L1, hm1, hb1, hy1, hls1, ht1⟩ := HM.out.outed (i := 1) (by omega) (by rw [HGI.out]; exact hat)
      obtain ⟨ls, hls, hrow, hseg⟩ := hat.segs
      have hsok : ∀ s ∈ (outE (D.e 1)).2, s.Ok := (out_ok HOK.out).2
      obtain ⟨l, hl⟩ : ∃ x, (outE (D.e 1)).2 = x := ⟨_, rfl⟩
      have HL := hide hl
      rw [hl] at hls hrow hsok ⊢
      obtain ⟨n1, hn1⟩ : ∃ x, l.length = x := ⟨_, rfl⟩
      rw [hn1] at hrow ⊢
      have HN1 := hide hn1
      obtain ⟨d1, hd1⟩ : ∃ x, ({ D with e := upd D.e 1 (outE (D.e 1)).1 } : LineD) = x := ⟨_, rfl⟩
      rw [hd1] at hm1
      have HD1 := hide hd1
      have hY1 : d1.y = D.y := by rw [← hd1]
      have HY1 := hide hY1
      have hseg8 : ∀ x ∈ ls, ∀ k, x.2.ownBlock = some k → L1.T k = 1 := fun x hx k hv => by rw [ht1]; exact newT_new ((hseg x hx).lt k hv).1
      have hrow8 : ∀ k, Value.ownBlock (.slice A1 n1 c1) = some k → L1.T k = 1 := fun k hv => by rw [ht1]; exact newT_new (hrow.lt k hv).1
      have HTB := hide hm1.tb
      have HM1 := hide hm1
      have HB1 := hide (show L1.b = b by rw [hb1, HLB.out])
      have HLS := hide hls
      have HROW := hide hrow
      have HSEG := hide hseg
      have HSOK := hide hsok
      have HS8 := hide hseg8
      have HR8 := hide hrow8
      have hle1 := own_le hrow
      have HLE1 := hide hle1
      have hn64 : n1 ≤ c1 ∧ c1 ≤ 9223372036854775807 := hle1
      clear hat hm1 hb1 hy1 hls1 ht1 hls hrow hseg hsok hl hn1 hd1 hY1 hseg8 hrow8 hle1 HEND
      go_wp2_with fail
      go_loopw [19] (SendIn w0 gl b d1 1 l L1.T w1) (fun v _ => n1 - (intOf v).toNat)
      case atStart => exact ⟨0, Nat.zero_le _, rfl, L1, by rw [List.take_zero, lay_nil]; exact HM1.out, HB1.out, KeepF.refl _ _, fun _ _ => rfl⟩
      case round =>
        obtain ⟨q, hq, rfl, L2, hm2, hb2, hk2, ht2⟩ := hrel
        have HM2 := hide hm2
        have HB2 := hide hb2
        have HK2 := hide hk2
        have HT2 := hide ht2
        rw [HN1.out] at hq
        clear hm2 hb2 hk2 ht2 HM1
        by_cases hlt : q < n1
        · have hql : q < ls.length := by
            have := congrArg List.length HLS.out
            rw [List.length_map, HN1.out] at this
            omega
          have hrow2 : wr.ownsRow wo.heap.size 60 5 (.slice A1 n1 c1) n1 (ls.flatMap segC) := HK2.out.own HROW.out (fun k hv hf => by
            have h1 := HR8.out k hv
            rcases hf with rfl | h2
            · rw [HTB.out] at h1; omega
            · omega)
          obtain ⟨gs, hgs, -⟩ := own_addr hrow2 (by omega)
          subst hgs
          have hrd := Reads.of_own hrow2
          have r0 := Reads.elem segC_len hrd q hql (by omega) 0 (by omega) (u := .int .u32 ls[q].1.seq) rfl
          have r1 := Reads.elem segC_len hrd q hql (by omega) 1 (by omega) (u := .int .u32 ls[q].1.ack) rfl
          have r2 := Reads.elem segC_len hrd q hql (by omega) 2 (by omega) (u := .int .i64 ls[q].1.fl) rfl
          have r3 := Reads.elem segC_len hrd q hql (by omega) 3 (by omega) (u := .int .i64 ls[q].1.wd) rfl
          have r4 := Reads.elem segC_len hrd q hql (by omega) 4 (by omega) (u := ls[q].2) rfl
          have hxm : ls[q] ∈ ls := List.getElem_mem hql
          have hlq : l[q]? = some ls[q].1 := by rw [← HLS.out, List.getElem?_map, List.getElem?_eq_getElem hql]; rfl
          have hso : ls[q].1.Ok := HSOK.out _ (List.mem_of_getElem? hlq)
          have hsx : wr.ownsRow wo.heap.size 5 1 ls[q].2 ls[q].1.data.length (bytesV ls[q].1.data) := HK2.out.own (HSEG.out _ hxm) (fun k hv hf => by
            have h1 := HS8.out _ hxm k hv
            rcases hf with rfl | h2
            · rw [HTB.out] at h1; omega
            · omega)
          obtain ⟨x, hx⟩ : ∃ x, ls[q] = x := ⟨_, rfl⟩
          rw [hx] at r0 r1 r2 r3 r4 hlq hso hsx
          obtain ⟨⟨zq, za, zf, zw, zd⟩, sv⟩ := x
          obtain ⟨As, cs, hsv, hns, hcs, -⟩ := own_form hsx
          dsimp only at r0 r1 r2 r3 r4 hlq hso hsx hsv hns
          subst hsv
          obtain ⟨ns, hns'⟩ : ∃ x, zd.length = x := ⟨_, rfl⟩
          have hsx' : wr.ownsRow wo.heap.size 5 1 (.slice As ns cs) ns (bytesV zd) := by rw [← hns']; exact hsx
          rw [hns'] at r4
          have HNS := hide hns'
          have HRDS := hide (Reads.of_own hsx')
          have HSO := hide hso
          have HLQ := hide hlq
          have hn32 : ns ≤ 32 := by rw [← hns']; exact hso.data
          have y1 : wr.cell? ⟨gs, q * 5, none⟩ = some (.int .u32 zq) := by simpa using r0
          have y2 : wr.cell? ⟨gs, q * 5 + 1, none⟩ = some (.int .u32 za) := by simpa using r1
          have y3 : wr.cell? ⟨gs, q * 5 + 2, none⟩ = some (.int .i64 zf) := by simpa using r2
          have y4 : wr.cell? ⟨gs, q * 5 + 3, none⟩ = some (.int .i64 zw) := by simpa using r3
          have y5 : wr.cell? ⟨gs, q * 5 + 4, none⟩ = some (.slice As ns cs) := by simpa using r4
          have hway := HM2.out.way
          obtain ⟨Ay, cy, hvy, hny, hcy, -⟩ := own_form hway
          have y0 : wr.cell? ⟨gl, 10, none⟩ = some (.slice Ay (lay d1.y 1 (l.take q)).length cy) := by
            rw [← hvy]
            exact HM2.out.box.cell 10
          have yf : wr.frozen? ⟨gl, 10, none⟩ = false := HM2.out.box.frozen 10
          rw [hvy] at hway
          obtain ⟨ny, hyn⟩ : ∃ x, (lay d1.y 1 (l.take q)).length = x := ⟨_, rfl⟩
          have hyn2 : (({ d1 with y := lay d1.y 1 (l.take q) } : LineD).y).length = ny := hyn
          rw [hyn] at y0
          rw [hyn2] at hway hny hvy
          have HVY := hide hvy
          have HYN := hide hyn
          have HWAY := hide hway
          have hs0 : w0.heap.size ≤ wr.heap.size := HM2.out.ext.size
          have hgl : gl < wr.heap.size := HM2.out.box.lt
          have HTK := hide (show l.take (q + 1) = l.take q ++ [⟨zq, za, zf, zw, zd⟩] by rw [List.take_add_one, HLQ.out]; rfl)
          clear r0 r1 r2 r3 r4 hxm hlq hso hsx hsx' hx hrd hns hcs hcy hny hvy hyn hyn2 hway hrow2 hns'
          by_cases h64 : ny < 64
          · have hI : (ny : Int) < 64 := by omega
            go_wp2_with fail
            have HXA := hide ((Ext.refl wr).alloc (.cells #[.int .u32 zq, .int .u32 za, .int .i64 zf, .int .i64 zw, .slice As ns cs] 60))
            have hsz : wr.heap.size ≤ (wr.alloc (.cells #[.int .u32 zq, .int .u32 za, .int .i64 zf, .int .i64 zw, .slice As ns cs] 60)).heap.size := by simp
            generalize wr.alloc (.cells #[.int .u32 zq, .int .u32 za, .int .i64 zf, .int .i64 zw, .slice As ns cs] 60) = wa at *
            refine (encode_seg ⟨zq, za, zf, zw, zd⟩ HSO.out As ns cs _ _ (HXA.out.reads HRDS.out (Nat.le_refl _)) hsz HNS.out).mono ?_
            rintro r w3 ⟨A3, c3, rfl, hb3, hx3⟩
            have HX3 := hide (HXA.out.trans hx3)
            have HB3 := hide (own_mono hb3 hsz)
            clear hb3 hx3 HXA hsz
            have y0' := HX3.out.cell y0
            have yf' := (HX3.out.frozen y0).trans yf
            have HW3 := hide (HX3.out.own HWAY.out)
            have HBX3 := hide (HM2.out.box.ext HX3.out)
            have hs3 : w0.heap.size ≤ w3.heap.size := Nat.le_trans hs0 HX3.out.size
            have HEL := hide (Blk.new w3 64 #[.int .i64 0, .slice A3 (14 + ns) c3])
            clear y0 yf y1 y2 y3 y4 y5
            go_wp2_with (at_builtin; refine wpList_append_any _ rfl (.tmp 42) (.tmp 47) _ rfl w0.heap.size 64 i0 _ 2 32 Try.underlying44 hi0 hz0 hz1 hz2 rfl (by omega) (.slice Ay ny cy) ny (L2.ls.flatMap letC) (by rfl) (Ext.own (w := w3) (by ((repeat (first | with_reducible exact Ext.refl _ | with_reducible assumption | with_reducible refine Ext.alloc ?_ _ | with_reducible refine Ext.drew ?_ | with_reducible refine Ext.drewN ?_ _ | with_reducible refine Ext.setCell ?_ (by first | exact Nat.le_refl _ | assumption | (simp; done) | omega) _ | with_reducible refine Ext.trans ?_ (by with_reducible assumption))); done)) HW3.out) _ _ 1 1 (letC ((0, ⟨zq, za, zf, zw, zd⟩), .slice A3 (14 + ns) c3)) (by rfl) HEL.out.reads2 (by simp [letC, Value.oneCell']) (by simp only [maxLen]; omega) (by omega) (Nat.le_trans hs3 (Ext.size (w := w3) (by ((repeat (first | with_reducible exact Ext.refl _ | with_reducible assumption | with_reducible refine Ext.alloc ?_ _ | with_reducible refine Ext.drew ?_ | with_reducible refine Ext.drewN ?_ _ | with_reducible refine Ext.setCell ?_ (by first | exact Nat.le_refl _ | assumption | (simp; done) | omega) _ | with_reducible refine Ext.trans ?_ (by with_reducible assumption))); done)))) ?_; intro A7 c7 w7 ho7 hg7 ha7; have n5 : w7.cell? ⟨gl, 10, none⟩ = some (.slice Ay ny cy) := hg7.cell (Ext.cell (w := w3) (by ((repeat (first | with_reducible exact Ext.refl _ | with_reducible assumption | with_reducible refine Ext.alloc ?_ _ | with_reducible refine Ext.drew ?_ | with_reducible refine Ext.drewN ?_ _ | with_reducible refine Ext.setCell ?_ (by first | exact Nat.le_refl _ | assumption | (simp; done) | omega) _ | with_reducible refine Ext.trans ?_ (by with_reducible assumption))); done)) y0') (fun e => own_blk_ne HW3.out HBX3.out (by decide) e.symm); have nf : w7.frozen? ⟨gl, 10, none⟩ = false := (Blk.grown (Blk.ext HBX3.out (by ((repeat (first | with_reducible exact Ext.refl _ | with_reducible assumption | with_reducible refine Ext.alloc ?_ _ | with_reducible refine Ext.drew ?_ | with_reducible refine Ext.drewN ?_ _ | with_reducible refine Ext.setCell ?_ (by first | exact Nat.le_refl _ | assumption | (simp; done) | omega) _ | with_reducible refine Ext.trans ?_ (by with_reducible assumption))); done))) hg7 (fun e => own_blk_ne HW3.out HBX3.out (by decide) e.symm)).frozen 10)
            have HREL := hide (show ∃ L, LineM w0 gl L { d1 with y := lay d1.y 1 (l.take (q + 1)) } (w7.setCell ⟨gl, 10, none⟩ (.slice A7 (ny + 1) c7)) ∧ L.b = b ∧ KeepF (fun k => k = gl ∨ L1.T k = 6) w1 (w7.setCell ⟨gl, 10, none⟩ (.slice A7 (ny + 1) c7)) ∧ ∀ k, k < w1.heap.size → L.T k = L1.T k from by
              obtain ⟨L3, h1, h2, h3, h4⟩ := HM2.out.pushed (j := 0) (s := ⟨zq, za, zf, zw, zd⟩) (vb := .slice A3 (14 + ns) c3) (HX3.out.trans ((Ext.refl w3).alloc (.cells #[.int .i64 0, .slice A3 (14 + ns) c3] 64))) (by omega) HSO.out (by
                  have h9 := (((Ext.refl w3).alloc (.cells #[.int .i64 0, .slice A3 (14 + ns) c3] 64))).own (own_mono HB3.out hs0)
                  have h8 := HNS.out
                  subst h8
                  exact h9) (fun k hk => by
                  have h9 := HB3.out.lt k hk
                  refine ⟨Nat.lt_of_lt_of_le h9.2 (((Ext.refl w3).alloc (.cells #[.int .i64 0, .slice A3 (14 + ns) c3] 64))).size, fun h8 => ?_⟩
                  have := h9.1
                  omega) HVY.out HYN.out ho7 hg7 ha7
              refine ⟨L3, ?_, h2.trans HB2.out, HK2.out.trans h3 (fun x hx hf => ?_), fun k hk => ?_⟩
              · have e : lay d1.y 1 (l.take (q + 1)) = lay d1.y 1 (l.take q) ++ [(0, ⟨zq, za, zf, zw, zd⟩)] := by
                  rw [HTK.out, lay_snoc, if_pos (by rw [HYN.out]; exact h64)]
                rw [e]
                exact h1
              · rcases hf with h9 | h9
                · exact .inl h9
                · rw [HT2.out x hx] at h9
                  exact .inr h9
              · rw [h4 k (Nat.lt_of_lt_of_le hk HK2.out.size), HT2.out k hk])
            clear ho7 hg7 ha7 n5 nf y0' yf'
            go_roundw
            case rel =>
              obtain ⟨L3, h1, h2, h3, h4⟩ := HREL.out
              exact ⟨q + 1, by rw [HN1.out]; omega, by go_num, L3, h1, h2, h3, h4⟩
            case measure => simp [intOf]; omega
          · have hI : ¬ ((ny : Int) < 64) := by omega
            go_wp2_with fail
            have HXA := hide ((Ext.refl wr).alloc (.cells #[.int .u32 zq, .int .u32 za, .int .i64 zf, .int .i64 zw, .slice As ns cs] 60))
            have hsz : wr.heap.size ≤ (wr.alloc (.cells #[.int .u32 zq, .int .u32 za, .int .i64 zf, .int .i64 zw, .slice As ns cs] 60)).heap.size := by simp
            generalize wr.alloc (.cells #[.int .u32 zq, .int .u32 za, .int .i64 zf, .int .i64 zw, .slice As ns cs] 60) = wa at *
            refine (encode_seg ⟨zq, za, zf, zw, zd⟩ HSO.out As ns cs _ _ (HXA.out.reads HRDS.out (Nat.le_refl _)) hsz HNS.out).mono ?_
            rintro r w3 ⟨A3, c3, rfl, hb3, hx3⟩
            have HX3 := hide (HXA.out.trans hx3)
            have HB3 := hide (own_mono hb3 hsz)
            clear hb3 hx3 HXA hsz
            have y0' := HX3.out.cell y0
            clear y0 yf y1 y2 y3 y4 y5
            go_wp2_with fail
            have HREL := hide (show LineM w0 gl L2 { d1 with y := lay d1.y 1 (l.take (q + 1)) } w3 from by
              rw [HTK.out, lay_snoc, if_neg (by rw [HYN.out]; exact h64)]
              exact HM2.out.extend HX3.out)
            go_roundw
            case rel => exact ⟨q + 1, by rw [HN1.out]; omega, by go_num, L2, HREL.out, HB2.out, HK2.out.trans (KeepF.of_ext (F := fun _ => False) HX3.out) (fun _ _ h => h.elim), HT2.out⟩
            case measure => simp [intOf]; omega
        · obtain rfl : q = n1 := by omega
          go_wp2_with fail
          go_roundw
          case rel =>
            have e : ({ d1 with y := lay d1.y 1 (l.take q) } : LineD) = sendI D 1 := by
              rw [List.take_of_length_le (by rw [HN1.out]; exact Nat.le_refl _), ← HL.out, ← HD1.out]
              rfl
            have HM3 := HM2.out
            rw [e] at HM3
            refine .inr (.inr ⟨by go_num, L2, ?_, HB2.out⟩)
            show LineM w0 gl L2 (sendI (sendI d 0) 1) _; rw [HD.out]; exact HM3
          case measure => simp [intOf]
    · have HP2 := hide hp
      clear hp
      go_wp2_with fail
      (first | go_end0 | ((try simp only [Exit.inBlock, Exit.then]); refine bodyPost_ret (results_none rfl _ _ _) rfl ?_))
      exact ⟨rfl, HP2.out⟩
end Go.Proofs.Ytacfffegmmdgfaa
