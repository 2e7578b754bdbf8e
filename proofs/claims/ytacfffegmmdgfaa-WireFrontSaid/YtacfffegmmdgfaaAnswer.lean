/- The contract of answer: what an acknowledgement does at an open end. -/
import Derived.Test.YtacfffegmmdgfaaEndWr
import Derived.BigRegion
namespace Go.Proofs.Ytacfffegmmdgfaa
open Go.RowKit
set_option linter.unusedVariables false

abbrev segV (q a f wd : Int) (d : Value) : Value := .agg #[.int .u32 q, .int .u32 a, .int .i64 f, .int .i64 wd, d]
def ansM (e : EndD) (a : Int) : Nat := ((a - e.una) % 4294967296).toNat
def ansK (e : EndD) (a : Int) : Nat := min (ansM e a) e.out.length
def ansTo (e : EndD) (a wd : Int) : EndD := { e with tries := 0, peer := wd, out := e.out.drop (ansK e a), first := (e.first + ansK e a) % 4294967296, una := a, wait := 0, nxt := if beforeB e.nxt a = true then a else e.nxt }
def answerE (e : EndD) (a wd : Int) : EndD :=
  if beforeB e.top a = true ∨ beforeB a e.una = true then e
  else if ansM e a = 0 then { e with tries := 0, peer := wd }
  else ansTo e a wd
theorem far2 {w : World} {g i : Nat} {b j : Nat} {x : Value} (h : w.cell? ⟨b, j, none⟩ = some x) (hp : i ≠ j) (v : Value) : (w.setCell ⟨g, i, none⟩ v).cell? ⟨b, j, none⟩ = some x :=
  (World.cell?_setCell_other w ⟨g, i, none⟩ ⟨b, j, none⟩ v (fun e => hp (by injection e))).trans h
theorem far3 {w : World} {p : Addr} {x : Value} (h : w.cell? p = some x) : w.drew.cell? p = some x := h
theorem far4 {w : World} {p : Addr} {x : Value} {n : Nat} (h : w.cell? p = some x) : (w.drewN n).cell? p = some x := h
section
variable {w : World} {g : Nat} {e : EndD} {vo vi : Value}
theorem EndB.s0 (h : EndB w g e vo vi) (v : Int) : EndB (w.setCell ⟨g, 0, none⟩ (.int .i64 v)) g { e with st := v } vo vi := h.set_ 0 _
theorem EndB.s1 (h : EndB w g e vo vi) (v : Int) : EndB (w.setCell ⟨g, 1, none⟩ (.int .u32 v)) g { e with una := v } vo vi := h.set_ 1 _
theorem EndB.s2 (h : EndB w g e vo vi) (v : Int) : EndB (w.setCell ⟨g, 2, none⟩ (.int .u32 v)) g { e with nxt := v } vo vi := h.set_ 2 _
theorem EndB.s3 (h : EndB w g e vo vi) (v : Int) : EndB (w.setCell ⟨g, 3, none⟩ (.int .u32 v)) g { e with top := v } vo vi := h.set_ 3 _
theorem EndB.s4 (h : EndB w g e vo vi) (v : Int) : EndB (w.setCell ⟨g, 4, none⟩ (.int .u32 v)) g { e with first := v } vo vi := h.set_ 4 _
theorem EndB.s5 (h : EndB w g e vo vi) (v : Int) : EndB (w.setCell ⟨g, 5, none⟩ (.int .u32 v)) g { e with rcv := v } vo vi := h.set_ 5 _
theorem EndB.s8 (h : EndB w g e vo vi) (v : Int) : EndB (w.setCell ⟨g, 8, none⟩ (.int .i64 v)) g { e with peer := v } vo vi := h.set_ 8 _
theorem EndB.s10 (h : EndB w g e vo vi) (v : Bool) : EndB (w.setCell ⟨g, 10, none⟩ (.bool v)) g { e with fin := v } vo vi := h.set_ 10 _
theorem EndB.s11 (h : EndB w g e vo vi) (v : Bool) : EndB (w.setCell ⟨g, 11, none⟩ (.bool v)) g { e with due := v } vo vi := h.set_ 11 _
theorem EndB.s12 (h : EndB w g e vo vi) (v : Int) : EndB (w.setCell ⟨g, 12, none⟩ (.int .i64 v)) g { e with wait := v } vo vi := h.set_ 12 _
theorem EndB.s13 (h : EndB w g e vo vi) (v : Int) : EndB (w.setCell ⟨g, 13, none⟩ (.int .i64 v)) g { e with tries := v } vo vi := h.set_ 13 _
/-- Stores into the end's own cells, and rows of other values. -/
theorem EndOp.via {w w1 w' : World} {e' : EndD} (h : KeepF (foot g vo vi) w w1) (k : EndOp w1 g vo vi e' w') : EndOp w g vo vi e' w' := by
  obtain ⟨vo', vi', h1, h2, h3⟩ := k
  exact ⟨vo', vi', h1, h.trans h2 (fun _ _ hx => hx), fun x hx => (h3 x hx).imp id (fun h4 => Nat.le_trans h.size h4)⟩
end
def AnsMid (w : World) (g gb : Nat) (e : EndD) (q a f wd : Int) (vo vi d : Value) (wc : World) : Prop := EndB wc g e vo vi ∧ w.grownBy wc (some g) ∧ Blk wc gb 60 #[.int .u32 q, .int .u32 a, .int .i64 f, .int .i64 wd, d]

set_option maxHeartbeats 2000000 in
set_option maxRecDepth 100000 in
theorem answer_any (w : World) (g : Nat) (e : EndD) (vo vi : Value) (q a f wd : Int) (A : Option Addr) (n c : Nat) (hm : EndM w g e vo vi) (ok : e.Ok) (ha : U32 a) (hf : f = 2 ∨ f = 6) (hw : 0 ≤ wd ∧ wd ≤ 255) :
    Calls Try.prog 41 #[.pointer (some ⟨g, 0, none⟩), segV q a f wd (.slice A n c)] w fun r w' => r = .returned (.tuple #[]) ∧ EndOp w g vo vi (answerE e a wd) w' := by
  have HX0 := hide ((Ext.refl w).alloc (.cells #[.int .u32 q, .int .u32 a, .int .i64 f, .int .i64 wd, .slice A n c] 60))
  have HBX := hide (Blk.new w 60 #[.int .u32 q, .int .u32 a, .int .i64 f, .int .i64 wd, .slice A n c])
  have HM := hide (hm.ext HX0.out)
  have hgl : g < w.heap.size := hm.box.lt
  have HA := hide ha
  have HOK := hide ok
  have k2 : bits BinOp.and IntKind.i64 f 2 = 2 := by rcases hf with rfl | rfl <;> decide
  clear hm ok ha hf
  have hne : w.heap.size ≠ g := by omega
  go_enter Try.func41, Try.ntmps41
  go_upto_region 1 with fail
  generalize w.alloc (.cells #[.int .u32 q, .int .u32 a, .int .i64 f, .int .i64 wd, .slice A n c] 60) = W at *
  obtain ⟨gb, hgb⟩ : ∃ x, w.heap.size = x := ⟨_, rfl⟩
  rw [hgb] at HBX hne hgl ⊢
  have HGB := hide hgb
  clear hgb
  have HB1 := hide (fun d => before_any (W.drewN d) e.top a HOK.out.top HA.out)
  have HB2 := hide (fun d => before_any (W.drewN d) a e.una HA.out HOK.out.una)
  have b1 : W.cell? ⟨gb, 1, none⟩ = some (.int .u32 a) := HBX.out.cell 1
  have b2 : W.cell? ⟨gb, 2, none⟩ = some (.int .i64 f) := HBX.out.cell 2
  have c1 : W.cell? ⟨g, 1, none⟩ = some (.int .u32 e.una) := HM.out.box.cell 1
  have c3 : W.cell? ⟨g, 3, none⟩ = some (.int .u32 e.top) := HM.out.box.cell 3
  have HT := hide (show answerE e a wd = if beforeB e.top a = true ∨ beforeB a e.una = true then e else if ansM e a = 0 then { e with tries := 0, peer := wd } else ansTo e a wd from rfl)
  cases h1 : beforeB e.top a with
  | true =>
    have HT' := hide (show answerE e a wd = e by rw [HT.out, if_pos (.inl h1)])
    rw [h1] at HB1
    clear h1 HB2
    generalize e.top = tp at HB1 c3
    generalize e.una = ua at c1
    go_quiet ((go_at_call 43; exact quiet_eq (HB1.out _)))
    go_wp2_with fail
    (first | go_end0 | ((try simp only [Exit.inBlock, Exit.then]); refine bodyPost_ret (results_none rfl _ _ _) rfl ?_))
    refine ⟨rfl, ?_⟩
    rw [HT'.out]
    exact EndOp.via (KeepF.of_ext HX0.out) (EndOp.quiet HM.out _)
  | false =>
    rw [h1] at HB1
    cases h2 : beforeB a e.una with
    | true =>
      have HT' := hide (show answerE e a wd = e by rw [HT.out, if_pos (.inr h2)])
      rw [h2] at HB2
      clear h1 h2
      generalize e.top = tp at HB1 c3
      generalize e.una = ua at HB2 c1
      go_quiet ((first | (go_at_call 43; with_reducible exact quiet_eq (HB1.out _)) | (go_at_call 43; with_reducible exact quiet_eq (HB2.out _))))
      go_wp2_with fail
      (first | go_end0 | ((try simp only [Exit.inBlock, Exit.then]); refine bodyPost_ret (results_none rfl _ _ _) rfl ?_))
      refine ⟨rfl, ?_⟩
      rw [HT'.out]
      exact EndOp.via (KeepF.of_ext HX0.out) (EndOp.quiet HM.out _)
    | false =>
      rw [h2] at HB2
      have HT2 := hide (show answerE e a wd = if ansM e a = 0 then { e with tries := 0, peer := wd } else ansTo e a wd by rw [HT.out, if_neg (by rw [h1, h2]; simp)])
      clear h1 h2 HT
      generalize e.top = tp at HB1 c3
      obtain ⟨ua, hua⟩ : ∃ x, e.una = x := ⟨_, rfl⟩
      rw [hua] at HB2 c1
      have HUA := hide hua
      clear hua
      go_quiet ((first | (go_at_call 43; with_reducible exact quiet_eq (HB1.out _)) | (go_at_call 43; with_reducible exact quiet_eq (HB2.out _))))
      go_upto_region 2 with fail
      have HWQ := hide ((Ext.refl W).drewN nq)
      generalize W.drewN nq = W1 at *
      have HM1 := hide (HM.out.ext HWQ.out)
      have HBX1 := hide (HBX.out.ext HWQ.out)
      clear b1 b2 c1 c3 HB1 HB2 HM HBX
      have b3 : W1.cell? ⟨gb, 3, none⟩ = some (.int .i64 wd) := HBX1.out.cell 3
      have c8 : W1.cell? ⟨g, 8, none⟩ = some (.int .i64 e.peer) := HM1.out.box.cell 8
      have c13 : W1.cell? ⟨g, 13, none⟩ = some (.int .i64 e.tries) := HM1.out.box.cell 13
      have f8 := HM1.out.box.frozen 8
      have f13 := HM1.out.box.frozen 13
      go_cut [] (AnsMid W1 g gb { e with tries := 0, peer := wd } q a f wd vo vi (.slice A n c))
      case first =>
        generalize e.peer = pe at c8
        generalize e.tries = tr at c13
        go_region_held3 (fun w' => w'.cell? ⟨gb, 3, none⟩ = some (.int .i64 wd)) (first | ((repeat (first | with_reducible assumption | (with_reducible refine far3 ?_) | (with_reducible refine far4 ?_) | (with_reducible refine far2 ?_ (by decide) _) | (with_reducible refine far1 ?_ (by dsimp only; omega) _))); done) | fail) (fail)
        go_wp2_with fail
        go_meet
        exact ⟨EndB.s8 (EndB.s13 (HM1.out.box.drewN _) _) _, grown_set (grown_set (grown_drewN (World.grownBy.refl W1 _) _) _ _) _ _, ((HBX1.out.drewN _).far hne _).far hne _⟩
      case rest =>
      obtain ⟨hb2, hg2, hx2⟩ := hcut
      have HB2 := hide hb2
      have HG2 := hide hg2
      have HX2 := hide hx2
      have HM2 := hide (HM1.out.grown hg2 hb2 rfl rfl)
      clear hb2 hg2 hx2 b3 c8 c13 f8 f13
      obtain ⟨m, hmm⟩ : ∃ x, ansM e a = x := ⟨_, rfl⟩
      have hmi : ((a - ua) % 4294967296) = (m : Int) := by rw [← hmm, ← HUA.out]; unfold ansM; omega
      have hmlt : m < 4294967296 := by omega
      rw [hmm] at HT2
      have HMM := hide hmm
      clear hmm
      have b1 : wc.cell? ⟨gb, 1, none⟩ = some (.int .u32 a) := HX2.out.cell 1
      have c1 : wc.cell? ⟨g, 1, none⟩ = some (.int .u32 ua) := by rw [← HUA.out]; exact HB2.out.cell 1
      go_upto_region 3 with fail
      go_quiet (fail)
      by_cases hm0 : m = 0
      · subst hm0
        have HT3 := hide (show answerE e a wd = { e with tries := 0, peer := wd } by rw [HT2.out, if_pos rfl])
        go_wp2_with fail
        (first | go_end0 | ((try simp only [Exit.inBlock, Exit.then]); refine bodyPost_ret (results_none rfl _ _ _) rfl ?_))
        refine ⟨rfl, ?_⟩
        rw [HT3.out]
        exact EndOp.via (KeepF.of_ext (HX0.out.trans HWQ.out)) (EndOp.of_grown HM1.out (grown_drewN HG2.out _) (HB2.out.drewN _) rfl rfl)
      · have HT3 := hide (show answerE e a wd = ansTo e a wd by rw [HT2.out, if_neg hm0])
        have tm : ((m : Int) == 0) = false := by simp; omega
        have tm' : (m == 0) = false := by simp; omega
        have HM3 := hide (HM2.out.ext ((Ext.refl wc).drewN nq))
        have HG3 := hide (grown_drewN HG2.out nq)
        have HX3 := hide (HX2.out.drewN nq)
        clear HT2 hm0 HB2 b1 c1 HM2 HG2 HX2
        obtain ⟨Ao, co, hvo, hco, hcm, hnil⟩ := own_form HM1.out.out
        obtain ⟨l, hl⟩ : ∃ x, e.out.length = x := ⟨_, rfl⟩
        have hl64 := HOK.out.out
        rw [hl] at hvo hco hnil hl64
        have HVO := hide hvo
        have HL := hide hl
        have HNIL := hide hnil
        unfold maxLen at hcm
        clear hvo hl hnil
        obtain ⟨k, hk⟩ : ∃ x, ansK e a = x := ⟨_, rfl⟩
        have hkm : k = min m l := by rw [← hk, ansK, HMM.out, HL.out]
        have HK := hide hk
        clear hk
        go_upto_region 5 with fail
        generalize wc.drewN nq = W2 at *
        have c6 : W2.cell? ⟨g, 6, none⟩ = some (.slice Ao l co) := by rw [← HVO.out]; exact HM3.out.box.cell 6
        go_cut [5] (MinMid W2 k)
        case first =>
          by_cases hml : m < l
          · obtain rfl : k = m := by omega
            clear hkm
            have hml' : ¬ l < k := by omega
            go_wp2_with fail
            go_meet
            exact ⟨rfl, rfl⟩
          · obtain rfl : k = l := by omega
            clear hkm
            by_cases hlm : k < m
            · go_wp2_with fail
              go_meet
              exact ⟨rfl, rfl⟩
            · obtain rfl : k = m := by omega
              have hml' : ¬ k < k := by omega
              go_wp2_with fail
              go_meet
              exact ⟨rfl, rfl⟩
        case rest =>
        obtain ⟨rfl, hwc⟩ := hcut
        subst hwc
        obtain ⟨i0, hi0, hz0, hz1, hz2⟩ := info_parts byte_info
        have hkl : k ≤ l := by omega
        have hoo := HM3.out.out
        rw [HVO.out] at hoo
        have hoo' : W2.ownsRow 0 5 1 (.slice Ao l co) l (bytesV e.out) := by have := hoo; rwa [show ({ e with tries := 0, peer := wd } : EndD).out.length = l from HL.out] at this
        obtain ⟨A', hcut0, hrd, hnl⟩ := cut_from (P := Try.prog) Try.underlying24 hi0 hz1 (Reads.of_own hoo') k co hkl hco .i64
        obtain ⟨rr, hr⟩ : ∃ r, l - k = r := ⟨_, rfl⟩
        obtain ⟨cr, hcr⟩ : ∃ r, co - k = r := ⟨_, rfl⟩
        rw [hr, hcr] at hcut0
        rw [hr] at hrd
        have HR2 := hide (show Reads W2 W2.heap.size 1 A' rr (bytesV (e.out.drop k)) by rw [← bytesV_drop]; exact hrd)
        have HN2 := hide (show A' = none → rr = 0 from fun h0 => by have := (HNIL.out (hnl h0)).1; omega)
        have HRE := hide hr
        have hr64 : rr ≤ 64 := by omega
        have hki : (k : Int) ≤ (co : Int) := by omega
        have hk0 : (0 : Int) ≤ (k : Int) := by omega
        have hk64 : k ≤ 64 := by omega
        clear hr hcr hrd hnl hoo hoo' hkm
        go_wp2_with fail
        refine (bclone_any A' rr cr W2.heap.size (bytesV (e.out.drop k)) _ HR2.out (bytesV_one _) (Nat.le_refl _) (by omega) HN2.out).mono ?_
        rintro r w3 ⟨A3, c3, rfl, ho3, hx3⟩
        have HO3 := hide ho3
        have HX4 := hide hx3
        have HM4 := hide (HM3.out.ext hx3)
        have HBX4 := hide (HX3.out.ext hx3)
        have HBF := hide (fun d W => before_any (World.drewN W d) e.nxt a HOK.out.nxt HA.out)
        have hfi := HOK.out.first
        obtain ⟨fi1, fi2⟩ := hfi
        clear ho3 hx3 c6
        have d1 : w3.cell? ⟨g, 1, none⟩ = some (.int .u32 e.una) := HM4.out.box.cell 1
        have d2 : w3.cell? ⟨g, 2, none⟩ = some (.int .u32 e.nxt) := HM4.out.box.cell 2
        have d4 : w3.cell? ⟨g, 4, none⟩ = some (.int .u32 e.first) := HM4.out.box.cell 4
        have d6 : w3.cell? ⟨g, 6, none⟩ = some vo := HM4.out.box.cell 6
        have d12 : w3.cell? ⟨g, 12, none⟩ = some (.int .i64 e.wait) := HM4.out.box.cell 12
        have f1 := HM4.out.box.frozen 1
        have f2 := HM4.out.box.frozen 2
        have f4 := HM4.out.box.frozen 4
        have f6 := HM4.out.box.frozen 6
        have f12 := HM4.out.box.frozen 12
        have b1 : w3.cell? ⟨gb, 1, none⟩ = some (.int .u32 a) := HBX4.out.cell 1
        have HAT := hide (show ansTo e a wd = { e with tries := 0, peer := wd, out := e.out.drop k, first := (e.first + k) % 4294967296, una := a, wait := 0, nxt := if beforeB e.nxt a = true then a else e.nxt } by rw [← HK.out]; rfl)
        have hkk : (k : Int) % 4294967296 = (k : Int) := by omega
        have HE4 := hide (show EndB ((((w3.setCell ⟨g, 6, none⟩ (.slice A3 rr c3)).setCell ⟨g, 4, none⟩ (.int .u32 ((e.first + k) % 4294967296))).setCell ⟨g, 1, none⟩ (.int .u32 a)).setCell ⟨g, 12, none⟩ (.int .i64 0)) g { e with tries := 0, peer := wd, out := e.out.drop k, first := (e.first + k) % 4294967296, una := a, wait := 0 } (.slice A3 rr c3) vi from ((((HM4.out.box.set_ 6 (.slice A3 rr c3)).set_ 4 (.int .u32 ((e.first + k) % 4294967296))).set_ 1 (.int .u32 a)).set_ 12 (.int .i64 0)))
        generalize e.peer = pe at *
        obtain ⟨fs, hfs⟩ : ∃ x, e.first = x := ⟨_, rfl⟩
        rw [hfs] at d4 fi1 fi2 HE4 HAT
        obtain ⟨nx, hnx⟩ : ∃ x, e.nxt = x := ⟨_, rfl⟩
        rw [hnx] at d2 HBF
        have HNX := hide hnx
        clear hfs hnx
        generalize e.una = u1 at d1
        generalize e.wait = w12 at d12
        go_upto_region 9 with fail
        have HG5 := hide (show w3.grownBy ((((w3.setCell ⟨g, 6, none⟩ (.slice A3 rr c3)).setCell ⟨g, 4, none⟩ (.int .u32 ((fs + k) % 4294967296))).setCell ⟨g, 1, none⟩ (.int .u32 a)).setCell ⟨g, 12, none⟩ (.int .i64 0)) (some g) from grown_set (grown_set (grown_set (grown_set (World.grownBy.refl w3 _) _ _) _ _) _ _) _ _)
        generalize (((w3.setCell ⟨g, 6, none⟩ (.slice A3 rr c3)).setCell ⟨g, 4, none⟩ (.int .u32 ((fs + k) % 4294967296))).setCell ⟨g, 1, none⟩ (.int .u32 a)).setCell ⟨g, 12, none⟩ (.int .i64 0) = W5 at *
        have HFIN := hide (fun (e' : EndD) (W6 : World) (hb : EndB W6 g e' (.slice A3 rr c3) vi) (hg : W5.grownBy W6 (some g)) (ho : e'.out = e.out.drop k) (hi : e'.inn = e.inn) => show EndOp w g vo vi e' W6 from by
          have hk5 : KeepF (fun x => x = g) w3 W6 := KeepF.of_grown (grown_trans' HG5.out hg) rfl
          have hgw : w.heap.size = gb := HGB.out
          have s1 : W1.heap.size ≤ W2.heap.size := HG3.out.size
          have s0 : w.heap.size ≤ W1.heap.size := Nat.le_trans HX0.out.size HWQ.out.size
          have n2 : ∀ x, vi.ownBlock = some x → ¬ x = g := fun x hv e => own_blk_ne HM4.out.inn HM4.out.box (by decide) (by rw [hv, e])
          have hrl : (e.out.drop k).length = rr := by rw [List.length_drop, HL.out]; exact HRE.out
          refine ⟨.slice A3 rr c3, vi, ⟨hb, ?_, ?_, ?_⟩, ?_, ?_⟩
          · rw [ho, hrl]
            exact hk5.own (own_mono HO3.out (Nat.zero_le _)) (fun x hv e => by have := (HO3.out.lt x hv).1; omega)
          · rw [hi]
            exact hk5.own HM4.out.inn n2
          · intro x hx hx2
            have h1 := (HO3.out.lt x hx).1
            have h2 := (HM1.out.inn.lt x hx2).2
            omega
          · exact (KeepF.of_ext (HX0.out.trans HWQ.out)).trans ((KeepF.of_grown (F := fun x => x = g) (grown_trans' HG3.out (grown_trans' (grown_of_ext HX4.out _) (grown_trans' HG5.out hg))) rfl)) (fun x _ hx => .inl hx)
          · rintro x (hx | hx | hx)
            · exact .inl (.inl hx)
            · have h1 := (HO3.out.lt x hx).1
              exact .inr (by omega)
            · exact .inl (.inr (.inr hx)))
        have c1 : W5.cell? ⟨g, 1, none⟩ = some (.int .u32 a) := HE4.out.cell 1
        have c2 : W5.cell? ⟨g, 2, none⟩ = some (.int .u32 nx) := by rw [← HNX.out]; exact HE4.out.cell 2
        have q2 := HE4.out.frozen 2
        have HNX2 := HNX
        cases hbf : beforeB nx a with
        | true =>
          rw [hbf] at HBF
          have HAT2 := hide (show ansTo e a wd = { e with tries := 0, peer := wd, out := e.out.drop k, first := (fs + k) % 4294967296, una := a, wait := 0, nxt := a } by rw [HAT.out, HNX.out, hbf]; rfl)
          clear hbf d1 d2 d4 d6 d12 f1 f2 f4 f6 f12 b1
          go_quiet ((go_at_call 43; with_reducible exact quiet_eq (HBF.out _ _)))
          go_wp2_with fail
          (first | go_end0 | ((try simp only [Exit.inBlock, Exit.then]); refine bodyPost_ret (results_none rfl _ _ _) rfl ?_))
          refine ⟨rfl, ?_⟩
          rw [HT3.out, HAT2.out]
          exact HFIN.out _ _ ((HE4.out.drewN _).set_ 2 _) (grown_set (grown_drewN (World.grownBy.refl W5 _) _) _ _) rfl rfl
        | false =>
          rw [hbf] at HBF
          have HAT2 := hide (show ansTo e a wd = { e with tries := 0, peer := wd, out := e.out.drop k, first := (fs + k) % 4294967296, una := a, wait := 0 } by rw [HAT.out, HNX.out, hbf]; simp only [Bool.false_eq_true, if_false])
          clear hbf d1 d2 d4 d6 d12 f1 f2 f4 f6 f12 b1
          go_quiet ((go_at_call 43; with_reducible exact quiet_eq (HBF.out _ _)))
          go_wp2_with fail
          (first | go_end0 | ((try simp only [Exit.inBlock, Exit.then]); refine bodyPost_ret (results_none rfl _ _ _) rfl ?_))
          refine ⟨rfl, ?_⟩
          rw [HT3.out, HAT2.out]
          exact HFIN.out _ _ (HE4.out.drewN _) (grown_drewN (World.grownBy.refl W5 _) _) rfl rfl
end Go.Proofs.Ytacfffegmmdgfaa
