/- The wheel of timers: a step of its clock. -/
import Derived.Test.YthmojneobkaolaaGreatDoorTpWheel2
import Derived.Test.YthmojneobkaolaaGreatDoorIntsV
namespace Go.Proofs.YthmojneobkaolaaGreatDoor
open Go.RowKit
set_option linter.unusedVariables false

theorem tm_info : (Tryz.prog.info? tmT).map (fun i => (i.zero, i.size, i.bytes)) = some (some (.agg #[.int .u32 0, .int .i64 0]), 2, 16) := by kernel_rfl
theorem cut_tm {w : World} {B n : Nat} {A : Option Addr} {xs : List Value} (h : Reads w B 2 A n xs) (k c : Nat) (hk : k ≤ n) (hc : n ≤ c) (kl : IntKind) :
    ∃ A', (∀ W, (Instr.slice 106 (.slice A n c) (some (.int kl (k : Int))) none none).run Tryz.prog W = .ok (.slice A' (n - k) (c - k)) W) ∧ Reads w B 2 A' (n - k) (xs.drop (k * 2)) ∧ (A' = none → A = none) := by
  obtain ⟨i0, hi0, hz0, hz1, hz2⟩ := info_parts tm_info
  have he : Tryz.prog.elem 106 = tmT := by kernel_rfl
  refine ⟨if c = k then A else A.map (·.add (k * 2)), fun W => ?_, h.cut hk hc, ?_⟩
  · rw [run_slice_l W 106 A n c (by kernel_rfl) kl (k : Int) (by omega) (by omega), he]
    simp [sizeOf, typeInfo, hi0, hz1, sliced, Result.andThen]
  · intro h0
    cases A with
    | none => rfl
    | some a => split at h0 <;> simp at h0
def idsV (ls : List (Nat × Nat)) : List Value := intsV (ls.map fun p => (p.2 : Int))
theorem idsV_snoc (ls : List (Nat × Nat)) (i : Nat) (p : Nat × Nat) (h : ls[i]? = some p) : idsV (ls.take (i + 1)) = idsV (ls.take i) ++ [.int .i64 (p.2 : Int)] := by
  obtain ⟨hl, hp⟩ := List.getElem?_eq_some_iff.1 h
  subst hp
  unfold idsV
  rw [List.take_succ_eq_append_getElem hl, List.map_append, intsV_append]
  rfl
theorem grown_ext {a b c : World} {base size n : Nat} {e : TypeId} {v : Value} {xs : List Value} (h : Ext a b) (ho : b.ownsRow base e size v n xs) (hb : a.heap.size ≤ base) (hg : b.grownBy c v.ownBlock) : Ext a c := by
  refine h.grown hg fun k hk => ?_
  rcases ho.2 with ⟨rfl, _⟩ | ⟨g', cap, cur, rfl, hgg, _⟩
  · simp [Value.ownBlock] at hk
  · simp only [Value.ownBlock, Option.some.injEq] at hk
    omega
theorem int_info2 : (Tryz.prog.info? 3).map (fun i => (i.zero, i.size, i.bytes)) = some (some (.int .i64 0), 1, 8) := by kernel_rfl
theorem own_none {w : World} {base size n c : Nat} {e : TypeId} {A : Option Addr} {xs : List Value} (h : w.ownsRow base e size (.slice A n c) n xs) (hA : A = none) : n = 0 := by
  obtain ⟨A', c', hv, h1, h2, h3⟩ := own_form h
  injection hv with hv _ hc
  subst hv
  exact (h3 hA).1
theorem low_take {ls : List (Nat × Nat)} {i t : Nat} (h : ∀ j p, j < i → ls[j]? = some p → p.1 ≤ t) : ∀ p ∈ ls.take i, p.1 ≤ t := fun p hp => by
  obtain ⟨j, hj, rfl⟩ := List.getElem_of_mem hp
  have hj' : j < i := by rw [List.length_take] at hj; omega
  exact h j _ hj' (by rw [← List.getElem?_eq_getElem hj, List.getElem?_take, if_pos hj'])
theorem high_drop {ls : List (Nat × Nat)} {i t : Nat} {q : Nat × Nat} (h : Timely ls) (hq : ls[i]? = some q) (hlt : t < q.1) : ∀ p ∈ ls.drop i, t < p.1 := fun p hp => by
  have e : ls = ls.take i ++ ls.drop i := (List.take_append_drop i ls).symm
  unfold Timely at h
  rw [e] at h
  obtain ⟨-, hb, -⟩ := List.pairwise_append.1 h
  cases hd : ls.drop i with
  | nil => rw [hd] at hp; cases hp
  | cons q' r =>
    have hq' : ls[i]? = some q' := by
      have := congrArg List.head? hd
      rw [List.head?_drop] at this
      exact this
    rw [hq] at hq'
    injection hq' with hq'
    subst hq'
    rw [hd] at hp hb
    rcases List.mem_cons.1 hp with rfl | hp
    · exact hlt
    · exact Nat.lt_of_lt_of_le hlt ((List.pairwise_cons.1 hb).1 p hp)
theorem low_of {ls : List (Nat × Nat)} {t : Nat} (h : Timely ls) (i : Nat) : Timely (ls.drop i) := List.Pairwise.sublist (List.drop_sublist i ls) h
def StRel (ls : List (Nat × Nat)) (B now' n : Nat) (v u : Value) (w0 wr : World) : Prop := ∃ (i : Nat) (A : Option Addr) (c : Nat), v = .int .i64 (i : Int) ∧ u = .slice A i c ∧ i ≤ n ∧ (∀ j p, j < i → ls[j]? = some p → p.1 ≤ now') ∧ wr.ownsRow B 3 1 (.slice A i c) i (idsV (ls.take i)) ∧ Ext w0 wr
/-- What a step leaves. -/
def Stepped (b : Nat) (w : World) (hw now' : Nat) (ls : List (Nat × Nat)) (e : Ending) (w' : World) : Prop :=
  ∃ A c k, e = .returned (.tuple #[.slice A k c, .int .i64 0]) ∧ k ≤ ls.length ∧ (∀ p ∈ ls.take k, p.1 ≤ now') ∧ (∀ p ∈ ls.drop k, now' < p.1) ∧ w'.ownsRow w.heap.size 3 1 (.slice A k c) k (idsV (ls.take k)) ∧
    WheelAt b w' hw now' (ls.drop k) ∧ KeepL b [108, tmT] [] [] w w'
set_option maxHeartbeats 8000000 in
set_option maxRecDepth 100000 in
theorem wstep_ok {b : Nat} {w : World} {hw now : Nat} {ls : List (Nat × Nat)} (h : WheelAt b w hw now ls) (hs : Timely ls) (hn : ls.length ≤ 20) (hbw : b ≤ w.heap.size) (now' : Nat) (h1 : now ≤ now') (h2 : now' ≤ 1000000) :
    Calls Tryz.prog 20 #[.pointer (some ⟨hw, 0, none⟩), .int .u32 (now' : Int)] w fun e w' => Stepped b w hw now' ls e w' := by
  obtain ⟨i0, hi0, hz0, hz1, hz2⟩ := info_parts int_info2
  obtain ⟨A, n, cp, hm⟩ := h
  have HM := hide hm
  have HS := hide hs
  have hln := hm.len
  have hnows := hm.nows
  have HFB := hide (fun w => far_ok now now' hm.nows h2 w)
  have t1 : decide ((now' : Int) - (now : Int) < 0) = false := decide_eq_false (by omega)
  have c0 : w.cell? ⟨hw, 0, none⟩ = some (.int .u32 (now : Int)) := hm.box.cell 0
  clear hm hs
  go_enter Tryz.func20, Tryz.ntmps20
  go_wp2_with fail
  refine (HFB.out w).mono ?_
  rintro e w1' ⟨rfl, rfl⟩
  go_upto_region 6 with fail
  clear c0 HFB
  go_loopw [7, 8] (StRel ls w.heap.size now' n · · w) (fun v _ _ => n - (intOf v).toNat)
  case atStart => exact ⟨0, none, 0, rfl, rfl, Nat.zero_le _, fun j _ hj => absurd hj (by omega), World.ownsRow_nil _ _ _ _, Ext.refl _⟩
  case round =>
    obtain ⟨i, A8, c8, rfl, rfl, hi, hno, ho8, hxr⟩ := hrel
    have HXR := hide hxr
    have HNO := hide hno
    have HO8 := hide ho8
    have HMR := hide (HM.out.ext hxr)
    have c0 : wr.cell? ⟨hw, 0, none⟩ = some (.int .u32 (now : Int)) := HMR.out.box.cell 0
    have c1 : wr.cell? ⟨hw, 1, none⟩ = some (.slice A n cp) := HMR.out.box.cell 1
    clear hxr hno ho8
    by_cases hlt : i < n
    · have hlt' : (i : Int) < (n : Int) := by omega
      have hi00 : (0 : Int) ≤ (i : Int) := by omega
      obtain ⟨g, q, hA, hq, k0, k1, hq1⟩ := HMR.out.at i hlt
      subst hA
      have HFA := hide (fun w => far_ok now q.1 hnows hq1 w)
      have HQ := hide hq
      clear hq
      go_upto_region 6 with fail
      go_quiet ((go_at_call 44; exact quiet_left (HFA.out _)))
      have HXQ := hide (HXR.out.trans ((Ext.refl wr).drewN nq))
      have HMQ := hide (HMR.out.ext ((Ext.refl wr).drewN nq))
      have HO8 := hide (((Ext.refl wr).drewN nq).own HO8.out)
      have c1q : (wr.drewN nq).cell? ⟨hw, 1, none⟩ = some (.slice (some ⟨g, 0, none⟩) n cp) := c1
      have k1q : (wr.drewN nq).cell? ⟨g, i * 2 + 1, none⟩ = some (.int .i64 (q.2 : Int)) := k1
      have HNC := hide (own_le HMQ.out.row).1
      generalize wr.drewN nq = W at *
      clear c0 c1 k0 k1 HXR HMR HFA
      by_cases hle : q.1 ≤ now'
      · have t2 : decide ((q.1 : Int) - (now : Int) ≤ (now' : Int) - (now : Int)) = true := decide_eq_true (by omega)
        have HRR := hide ((Blk.new W 3 #[.int .i64 (q.2 : Int)]).reads)
        have HOI := hide (((Ext.refl W).alloc (.cells #[.int .i64 (q.2 : Int)] 3)).own HO8.out)
        have HXA := hide (HXQ.out.alloc (.cells #[.int .i64 (q.2 : Int)] 3))
        have HBW := hide HXA.out.size
        go_wp2_with (at_builtin; refine wpList_append_any _ rfl (.tmp 41) (.tmp 50) _ rfl w.heap.size 3 i0 _ 1 8 Tryz.underlying22 hi0 hz0 hz1 hz2 rfl (by omega) (.slice A8 i c8) i (idsV (ls.take i)) rfl HOI.out _ (some ⟨W.heap.size, 0, none⟩) 1 1 [.int .i64 (q.2 : Int)] rfl HRR.out (by intro u hu; simp only [List.mem_cons, List.not_mem_nil, or_false] at hu; subst hu; rfl) (by simp only [maxLen]; omega) (by omega) HBW.out ?_; intro A1 c1' w1 hown1 hg1 hadr1)
        go_roundw
        case rel =>
          refine ⟨i + 1, A1, c1', by first | rfl | go_num, rfl, by omega, fun j p' hj hp' => ?_, by rw [idsV_snoc ls i q HQ.out]; exact hown1, grown_ext HXA.out HOI.out (Nat.le_refl _) hg1⟩
          by_cases hji : j = i
          · subst hji
            rw [HQ.out] at hp'
            injection hp' with hp'
            subst hp'
            exact hle
          · exact HNO.out j p' (by omega) hp'
        case measure => simp [intOf]; omega
      · have t2 : decide ((q.1 : Int) - (now : Int) ≤ (now' : Int) - (now : Int)) = false := decide_eq_false (by omega)
        obtain ⟨A', hsl, hrd, hAn⟩ := cut_tm (Reads.of_own HMQ.out.row) i cp (by omega) HNC.out .i64
        obtain ⟨B1, hB1⟩ : ∃ B1, W.heap.size = B1 := ⟨_, rfl⟩
        have HCL := hide (oclone_any A' (n - i) (cp - i) W.heap.size ((tmV ls).drop (i * 2)) W hrd (fun u hu => tmV_one ls u (List.mem_of_mem_drop hu)) (Nat.le_refl _) (by omega) (fun e => by have := (own_none HMQ.out.row (hAn e)); omega))
        have hni : ((i : Int)).toNat = i := by omega
        clear hrd hAn
        go_wp2_with fail
        refine HCL.out.mono ?_
        rintro e w2 ⟨A2, c2, rfl, ho2, hx2⟩
        have HB2 := hide (HMQ.out.box.ext hx2)
        have HO2 := hide ho2
        have HO8 := hide (hx2.own HO8.out)
        have HX2 := hide (HXQ.out.trans hx2)
        have HBW := hide (Nat.le_trans hbw HXQ.out.size)
        have HGE := hide HMQ.out.ge
        have HSM := hide HMQ.out.small
        have d0 : w2.cell? ⟨hw, 0, none⟩ = some (.int .u32 (now : Int)) := HB2.out.cell 0
        have d1 : w2.cell? ⟨hw, 1, none⟩ = some (.slice (some ⟨g, 0, none⟩) n cp) := HB2.out.cell 1
        have f0 := HB2.out.frozen 0
        have f1 := HB2.out.frozen 1
        clear hx2 ho2 HCL HXQ HMQ hsl
        go_wp2_with fail
        go_ret2
        refine ⟨A8, c8, i, rfl, by omega, low_take HNO.out, high_drop HS.out HQ.out (by omega), ?_, ⟨A2, n - i, c2, ?_, HGE.out, ?_, ?_, h2⟩, ?_⟩
        · exact own_far (own_far HO8.out (p := ⟨hw, 1, none⟩) (own_blk_ne HO8.out HB2.out (by decide)) _) (p := ⟨hw, 0, none⟩) (own_blk_ne HO8.out HB2.out (by decide)) _
        · exact (HB2.out.set_ 1 _).set_ 0 _
        · rw [← tmV_drop]
          have hne := own_blk_ne HO2.out HB2.out (by decide)
          exact own_mono (own_far (own_far HO2.out (p := ⟨hw, 1, none⟩) hne _) (p := ⟨hw, 0, none⟩) hne _) HBW.out
        · exact fun p hp => HSM.out p (List.mem_of_mem_drop hp)
        · exact ((KeepL.of HX2.out _ _ _ _).trans (KeepL.set HB2.out (.inl (by simp)) HGE.out 1 _)).trans (KeepL.set (HB2.out.set_ 1 _) (.inl (by simp)) HGE.out 0 _)
    · obtain rfl : i = n := by omega
      have hlt' : ¬ (i : Int) < (i : Int) := by omega
      go_upto_region 6 with fail
      go_quiet (fail)
      have HXQ := hide (HXR.out.trans ((Ext.refl wr).drewN nq))
      have HMQ := hide (HMR.out.ext ((Ext.refl wr).drewN nq))
      have HO8 := hide (((Ext.refl wr).drewN nq).own HO8.out)
      have c1q : (wr.drewN nq).cell? ⟨hw, 1, none⟩ = some (.slice A i cp) := c1
      have HNC := hide (own_le HMQ.out.row).1
      generalize wr.drewN nq = W at *
      clear c0 c1 HXR HMR
      obtain ⟨A', hsl, hrd, hAn⟩ := cut_tm (Reads.of_own HMQ.out.row) i cp (by omega) HNC.out .i64
      obtain ⟨B1, hB1⟩ : ∃ B1, W.heap.size = B1 := ⟨_, rfl⟩
      have HCL := hide (oclone_any A' 0 (cp - i) W.heap.size ((tmV ls).drop (i * 2)) W (Nat.sub_self i ▸ hrd) (fun u hu => tmV_one ls u (List.mem_of_mem_drop hu)) (Nat.le_refl _) (by omega) (fun e => by have := (own_none HMQ.out.row (hAn e)); omega))
      have hni : ((i : Int)).toNat = i := by omega
      clear hrd hAn
      go_wp2_with fail
      refine HCL.out.mono ?_
      rintro e w2 ⟨A2, c2, rfl, ho2, hx2⟩
      have HB2 := hide (HMQ.out.box.ext hx2)
      have HO2 := hide ho2
      have HO8 := hide (hx2.own HO8.out)
      have HX2 := hide (HXQ.out.trans hx2)
      have HBW := hide (Nat.le_trans hbw HXQ.out.size)
      have HGE := hide HMQ.out.ge
      have HSM := hide HMQ.out.small
      have d0 : w2.cell? ⟨hw, 0, none⟩ = some (.int .u32 (now : Int)) := HB2.out.cell 0
      have d1 : w2.cell? ⟨hw, 1, none⟩ = some (.slice A i cp) := HB2.out.cell 1
      have f0 := HB2.out.frozen 0
      have f1 := HB2.out.frozen 1
      clear hx2 ho2 HCL HXQ HMQ hsl
      go_wp2_with fail
      go_ret2
      refine ⟨A8, c8, i, rfl, by omega, low_take HNO.out, (fun p hp => absurd hp (by rw [List.drop_of_length_le (by omega)]; exact List.not_mem_nil)), ?_, ⟨A2, 0, c2, ?_, HGE.out, ?_, ?_, h2⟩, ?_⟩
      · exact own_far (own_far HO8.out (p := ⟨hw, 1, none⟩) (own_blk_ne HO8.out HB2.out (by decide)) _) (p := ⟨hw, 0, none⟩) (own_blk_ne HO8.out HB2.out (by decide)) _
      · exact (HB2.out.set_ 1 _).set_ 0 _
      · rw [← tmV_drop]
        have hne := own_blk_ne HO2.out HB2.out (by decide)
        exact own_mono (own_far (own_far HO2.out (p := ⟨hw, 1, none⟩) hne _) (p := ⟨hw, 0, none⟩) hne _) HBW.out
      · exact fun p hp => HSM.out p (List.mem_of_mem_drop hp)
      · exact ((KeepL.of HX2.out _ _ _ _).trans (KeepL.set HB2.out (.inl (by simp)) HGE.out 1 _)).trans (KeepL.set (HB2.out.set_ 1 _) (.inl (by simp)) HGE.out 0 _)
end Go.Proofs.YthmojneobkaolaaGreatDoor
