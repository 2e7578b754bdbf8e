/- The wheel of timers: adding one. -/
import Derived.Test.YthmojneobkaolaaGreatDoorTpWheel
namespace Go.Proofs.YthmojneobkaolaaGreatDoor
open Go.RowKit
set_option linter.unusedVariables false

theorem quiet_left {P : Program} {f : FuncId} {args : Array Value} {w : World} {n : Nat} {v : Value}
    (h : Calls P f args (w.drewN n) fun e w' => e = .returned v ∧ w.drewN n = w') : Calls P f args (w.drewN n) fun e w'' => e = .returned v ∧ ∃ m, w'' = w.drewN m :=
  h.mono fun _ _ ⟨he, hm⟩ => ⟨he, n, hm.symm⟩
/-- By their times. -/
def Timely (ls : List (Nat × Nat)) : Prop := ls.Pairwise fun p q => p.1 ≤ q.1
def WheelAt (b : Nat) (w : World) (hw now : Nat) (ls : List (Nat × Nat)) : Prop := ∃ A n cp, WheelM b w hw now A n cp ls
theorem WheelAt.ext {b : Nat} {w w' : World} {hw now : Nat} {ls : List (Nat × Nat)} (h : WheelAt b w hw now ls) (hx : Ext w w') : WheelAt b w' hw now ls := by
  obtain ⟨A, n, cp, h⟩ := h
  exact ⟨A, n, cp, h.ext hx⟩
def AdRel (ls : List (Nat × Nat)) (at_ n : Nat) (v : Value) (w0 wr : World) : Prop := ∃ i : Nat, v = .int .i64 (i : Int) ∧ i ≤ n ∧ (∀ j p, j < i → ls[j]? = some p → p.1 ≤ at_) ∧ Ext w0 wr
theorem timely_put {ls : List (Nat × Nat)} (h : Timely ls) (i at_ id : Nat) (h1 : ∀ j p, j < i → ls[j]? = some p → p.1 ≤ at_) (h2 : ∀ p, ls[i]? = some p → at_ ≤ p.1) : Timely (ls.take i ++ ((at_, id) :: ls.drop i)) := by
  have e : ls = ls.take i ++ ls.drop i := (List.take_append_drop i ls).symm
  unfold Timely at h ⊢
  rw [e] at h
  obtain ⟨ha, hb, hc⟩ := List.pairwise_append.1 h
  have hlo : ∀ p ∈ ls.take i, p.1 ≤ at_ := fun p hp => by
    obtain ⟨j, hj, rfl⟩ := List.getElem_of_mem hp
    have hj' : j < i := by rw [List.length_take] at hj; omega
    exact h1 j _ hj' (by rw [← List.getElem?_eq_getElem hj, List.getElem?_take, if_pos hj']) 
  have hhi : ∀ p ∈ ls.drop i, at_ ≤ p.1 := fun p hp => by
    cases hd : ls.drop i with
    | nil => rw [hd] at hp; cases hp
    | cons q r =>
      have hq : ls[i]? = some q := by
        have := congrArg List.head? hd
        rw [List.head?_drop] at this
        exact this
      have hq1 := h2 q hq
      rw [hd] at hp hb
      rcases List.mem_cons.1 hp with rfl | hp
      · exact hq1
      · exact Nat.le_trans hq1 ((List.pairwise_cons.1 hb).1 p hp)
  refine List.pairwise_append.2 ⟨ha, List.pairwise_cons.2 ⟨hhi, hb⟩, fun p hp q hq => ?_⟩
  rcases List.mem_cons.1 hq with rfl | hq
  · exact hlo p hp
  · exact hc p hp q hq
theorem wheelnew_at (w : World) : Calls Tryz.prog 29 #[.int .u32 0] w fun e w' => ∃ hw, e = .returned (.pointer (some ⟨hw, 0, none⟩)) ∧ w.heap.size ≤ hw ∧ (∀ b, b ≤ hw → WheelAt b w' hw 0 []) ∧ Ext w w' := by
  refine (wheelnew_ok w).mono ?_
  rintro e w' ⟨g, rfl, hb, hg, hx⟩
  exact ⟨g, rfl, hg, fun b hbg => ⟨none, 0, 0, hb, hbg, World.ownsRow_nil _ _ _ _, fun p hp => absurd hp (List.not_mem_nil), by omega⟩, hx⟩
theorem own_old {w : World} {base size n : Nat} {e : TypeId} {v : Value} {xs : List Value} (h : w.ownsRow base e size v n xs) : v.ownBlock ≠ some w.heap.size := by
  rcases h.2 with ⟨rfl, _⟩ | ⟨g', cap, cur, rfl, _, hh, _⟩
  · simp [Value.ownBlock]
  · have := lt_of_some hh
    simp only [Value.ownBlock, ne_eq, Option.some.injEq]
    omega
/-- What Insert leaves, as a wheel. -/
theorem ins_wheel {b : Nat} {w w1 w2 : World} {hw now : Nat} {A : Option Addr} {n cp : Nat} {ls : List (Nat × Nat)} (h : WheelM b w1 hw now A n cp ls) (hx : Ext w w1) (i at_ id : Nat) (hat : at_ ≤ 1000000) {e : Ending}
    (ho : InsOut b w1 A n cp i (tmV ls) [.int .u32 (at_ : Int), .int .i64 (id : Int)] e w2) : ∃ A' c', e = .returned (.slice A' (n + 1) c') ∧ Blk w2 hw 108 #[.int .u32 (now : Int), .slice A n cp] ∧
      WheelM b (w2.setCell ⟨hw, 1, none⟩ (.slice A' (n + 1) c')) hw now A' (n + 1) c' (ls.take i ++ ((at_, id) :: ls.drop i)) ∧ KeepL b [108, tmT] [] [] w (w2.setCell ⟨hw, 1, none⟩ (.slice A' (n + 1) c')) := by
  obtain ⟨A', c', rfl, hown, hg⟩ := ho
  have hb2 := h.box.grown hg (own_blk_ne h.row h.box (by decide)).symm
  have hne : Value.ownBlock (.slice A' (n + 1) c') ≠ some hw := own_blk_ne hown hb2 (by decide)
  rw [tmV_take, tmV_drop] at hown
  have e1 : tmV (ls.take i) ++ ([.int .u32 (at_ : Int), .int .i64 (id : Int)] ++ tmV (ls.drop i)) = tmV (ls.take i ++ ((at_, id) :: ls.drop i)) := by simp [tmV, tmC]
  rw [e1] at hown
  refine ⟨A', c', rfl, hb2, ⟨hb2.set_ 1 _, h.ge, own_far hown (p := ⟨hw, 1, none⟩) hne _, fun p hp => ?_, h.nows⟩, ((KeepL.of hx _ _ _ _).trans (KeepL.grown h.row (by simp) (Nat.le_refl _) hg)).trans (KeepL.set hb2 (.inl (by simp)) h.ge 1 _)⟩
  rcases List.mem_append.1 hp with hp | hp
  · exact h.small p (List.mem_of_mem_take hp)
  rcases List.mem_cons.1 hp with rfl | hp
  · exact hat
  · exact h.small p (List.mem_of_mem_drop hp)
set_option maxHeartbeats 8000000 in
set_option maxRecDepth 100000 in
theorem wadd_ok {b : Nat} {w : World} {hw now : Nat} {ls : List (Nat × Nat)} (h : WheelAt b w hw now ls) (hs : Timely ls) (hn : ls.length ≤ 20) (hbw : b ≤ w.heap.size) (at_ id : Nat) (h1 : now ≤ at_) (h2 : at_ ≤ 1000000) (hid : ∀ p ∈ ls, p.2 ≠ id) :
    Calls Tryz.prog 196 #[.pointer (some ⟨hw, 0, none⟩), .int .u32 (at_ : Int), .int .i64 (id : Int)] w fun e w' => e = .returned (.int .i64 0) ∧ (∃ i, Timely (ls.take i ++ ((at_, id) :: ls.drop i)) ∧ WheelAt b w' hw now (ls.take i ++ ((at_, id) :: ls.drop i))) ∧ KeepL b [108, tmT] [] [] w w' := by
  obtain ⟨A, n, cp, hm⟩ := h
  have HM := hide hm
  have hln := hm.len
  have HFI := hide (tfind_any hm (by omega) id)
  have HFB := hide (fun w => far_ok now at_ hm.nows h2 w)
  have hnows := hm.nows
  have t1 : decide ((at_ : Int) - (now : Int) < 0) = false := decide_eq_false (by omega)
  clear hm
  go_enter Tryz.func196, Tryz.ntmps196
  go_wp2_with fail
  refine HFI.out.mono ?_
  rintro e w1 ⟨hf, hx⟩
  rcases hf with ⟨rfl, -⟩ | ⟨i, p, rfl, hi, hp, hpe⟩
  rotate_left
  · exact absurd hpe (hid p (List.mem_of_getElem? hp))
  have HX := hide hx
  clear hx HFI
  have c0 : w1.cell? ⟨hw, 0, none⟩ = some (.int .u32 (now : Int)) := (HM.out.ext HX.out).box.cell 0
  go_wp2_with fail
  refine (HFB.out w1).mono ?_
  rintro e w1' ⟨rfl, rfl⟩
  go_upto_region 6 with fail
  clear c0
  go_loopw [7] (AdRel ls at_ n · w) (fun v _ => n - (intOf v).toNat)
  case atStart => exact ⟨0, rfl, Nat.zero_le _, fun j _ hj => absurd hj (by omega), HX.out⟩
  case round =>
    obtain ⟨i, rfl, hi, hno, hxr⟩ := hrel
    have HXR := hide hxr
    have HNO := hide hno
    have HMR := hide (HM.out.ext hxr)
    have c0 : wr.cell? ⟨hw, 0, none⟩ = some (.int .u32 (now : Int)) := HMR.out.box.cell 0
    have c1 : wr.cell? ⟨hw, 1, none⟩ = some (.slice A n cp) := HMR.out.box.cell 1
    clear hxr hno
    by_cases hlt : i < n
    · have hlt' : (i : Int) < (n : Int) := by omega
      have hi0 : (0 : Int) ≤ (i : Int) := by omega
      obtain ⟨g, q, hA, hq, k0, k1, hq1⟩ := HMR.out.at i hlt
      subst hA
      have HFA := hide (fun w => far_ok now q.1 hnows hq1 w)
      have HQ := hide hq
      have e1 : IntKind.i64.wrap ((q.1 : Int) - (now : Int) - ((at_ : Int) - (now : Int))) = (q.1 : Int) - (at_ : Int) := by rw [IntKind.wrap_i64]; omega
      have e2 : wrap64 ((q.1 : Int) - (now : Int) - ((at_ : Int) - (now : Int))) = (q.1 : Int) - (at_ : Int) := by unfold wrap64; omega
      clear hq
      go_upto_region 7 with fail
      go_quiet ((go_at_call 44; first | exact quiet_left (HFA.out _) | exact quiet_left (HFB.out _)))
      have HXQ := hide (HXR.out.trans ((Ext.refl wr).drewN nq))
      have HMQ := hide (HMR.out.ext ((Ext.refl wr).drewN nq))
      have c1q : (wr.drewN nq).cell? ⟨hw, 1, none⟩ = some (.slice (some ⟨g, 0, none⟩) n cp) := c1
      have k1q : (wr.drewN nq).cell? ⟨g, i * 2 + 1, none⟩ = some (.int .i64 (q.2 : Int)) := k1
      generalize wr.drewN nq = W at *
      clear c0 c1 k0 k1 HXR HMR HFA HFB e1 e2
      rcases Nat.lt_trichotomy q.1 at_ with hlt1 | heq | hgt
      · have t2 : decide ((0 : Int) < (q.1 : Int) - (at_ : Int)) = false := decide_eq_false (by omega)
        have t3 : ((q.1 : Int) - (at_ : Int) == 0) = false := beq_eq_false_iff_ne.2 (by omega)
        go_wp2_with fail
        go_roundw
        case rel =>
          refine ⟨i + 1, by first | rfl | go_num, by omega, fun j p' hj hp' => ?_, HXQ.out⟩
          by_cases hji : j = i
          · subst hji
            rw [HQ.out] at hp'
            injection hp' with hp'
            subst hp'
            omega
          · exact HNO.out j p' (by omega) hp'
        case measure => simp [intOf]; omega
      · have t2 : decide ((0 : Int) < (q.1 : Int) - (at_ : Int)) = false := decide_eq_false (by omega)
        have t3 : ((q.1 : Int) - (at_ : Int) == 0) = true := by rw [heq]; simp
        by_cases hid2 : id < q.2
        · have t4 : decide ((id : Int) < (q.2 : Int)) = true := decide_eq_true (by omega)
          have hge : ∀ p, ls[i]? = some p → at_ ≤ p.1 := fun p hp => by rw [HQ.out] at hp; injection hp with hp; subst hp; omega
          have HTM := hide (timely_put hs i at_ id HNO.out hge)
          have HXA := hide (HXQ.out.alloc (.cells #[.int .u32 (at_ : Int), .int .i64 (id : Int)] tmT))
          have HMA := hide (HMQ.out.ext ((Ext.refl W).alloc (.cells #[.int .u32 (at_ : Int), .int .i64 (id : Int)] tmT)))
          have HINS := hide (insert_any (some ⟨g, 0, none⟩) n cp i W.heap.size (tmV ls) (.int .u32 (at_ : Int)) (.int .i64 (id : Int)) b (W.alloc (.cells #[.int .u32 (at_ : Int), .int .i64 (id : Int)] tmT)) HMA.out.row (Nat.le_trans hbw HXA.out.size) (by omega) (by omega) (Blk.new W tmT #[.int .u32 (at_ : Int), .int .i64 (id : Int)]) (own_old HMQ.out.row) (tmV_one ls) (by intro u hu; simp only [List.mem_cons, List.not_mem_nil, or_false] at hu; rcases hu with rfl | rfl <;> rfl))
          go_wp2_with fail
          refine HINS.out.mono ?_
          rintro e w2 ho
          obtain ⟨A', c', rfl, hb2, hm2, hk2⟩ := ins_wheel HMA.out HXA.out i at_ id h2 ho
          have HM2 := hide hm2
          have HK2 := hide hk2
          have d1 : w2.cell? ⟨hw, 1, none⟩ = some (.slice (some ⟨g, 0, none⟩) n cp) := hb2.cell 1
          have f1 := hb2.frozen 1
          clear ho hb2 hm2 hk2
          go_wp2_with fail
          go_ret
          exact ⟨rfl, ⟨i, HTM.out, A', n + 1, c', HM2.out⟩, HK2.out⟩
        · have t4 : decide ((id : Int) < (q.2 : Int)) = false := decide_eq_false (by omega)
          go_wp2_with fail
          go_roundw
          case rel =>
            refine ⟨i + 1, by first | rfl | go_num, by omega, fun j p' hj hp' => ?_, HXQ.out⟩
            by_cases hji : j = i
            · subst hji
              rw [HQ.out] at hp'
              injection hp' with hp'
              subst hp'
              omega
            · exact HNO.out j p' (by omega) hp'
          case measure => simp [intOf]; omega
      · have t2 : decide ((0 : Int) < (q.1 : Int) - (at_ : Int)) = true := decide_eq_true (by omega)
        have hge : ∀ p, ls[i]? = some p → at_ ≤ p.1 := fun p hp => by rw [HQ.out] at hp; injection hp with hp; subst hp; omega
        have HTM := hide (timely_put hs i at_ id HNO.out hge)
        have HXA := hide (HXQ.out.alloc (.cells #[.int .u32 (at_ : Int), .int .i64 (id : Int)] tmT))
        have HMA := hide (HMQ.out.ext ((Ext.refl W).alloc (.cells #[.int .u32 (at_ : Int), .int .i64 (id : Int)] tmT)))
        have HINS := hide (insert_any (some ⟨g, 0, none⟩) n cp i W.heap.size (tmV ls) (.int .u32 (at_ : Int)) (.int .i64 (id : Int)) b (W.alloc (.cells #[.int .u32 (at_ : Int), .int .i64 (id : Int)] tmT)) HMA.out.row (Nat.le_trans hbw HXA.out.size) (by omega) (by omega) (Blk.new W tmT #[.int .u32 (at_ : Int), .int .i64 (id : Int)]) (own_old HMQ.out.row) (tmV_one ls) (by intro u hu; simp only [List.mem_cons, List.not_mem_nil, or_false] at hu; rcases hu with rfl | rfl <;> rfl))
        go_wp2_with fail
        refine HINS.out.mono ?_
        rintro e w2 ho
        obtain ⟨A', c', rfl, hb2, hm2, hk2⟩ := ins_wheel HMA.out HXA.out i at_ id h2 ho
        have HM2 := hide hm2
        have HK2 := hide hk2
        have d1 : w2.cell? ⟨hw, 1, none⟩ = some (.slice (some ⟨g, 0, none⟩) n cp) := hb2.cell 1
        have f1 := hb2.frozen 1
        clear ho hb2 hm2 hk2
        go_wp2_with fail
        go_ret
        exact ⟨rfl, ⟨i, HTM.out, A', n + 1, c', HM2.out⟩, HK2.out⟩
    · obtain rfl : i = n := by omega
      have HXQ := HXR
      have HMQ := HMR
      have hge : ∀ p, ls[i]? = some p → at_ ≤ p.1 := fun p hp => by have := (List.getElem?_eq_some_iff.1 hp).1; omega
      have HTM := hide (timely_put hs i at_ id HNO.out hge)
      have HXA := hide (HXQ.out.alloc (.cells #[.int .u32 (at_ : Int), .int .i64 (id : Int)] tmT))
      have HMA := hide (HMQ.out.ext ((Ext.refl wr).alloc (.cells #[.int .u32 (at_ : Int), .int .i64 (id : Int)] tmT)))
      have HINS := hide (insert_any A i cp i wr.heap.size (tmV ls) (.int .u32 (at_ : Int)) (.int .i64 (id : Int)) b (wr.alloc (.cells #[.int .u32 (at_ : Int), .int .i64 (id : Int)] tmT)) HMA.out.row (Nat.le_trans hbw HXA.out.size) (by omega) (by omega) (Blk.new wr tmT #[.int .u32 (at_ : Int), .int .i64 (id : Int)]) (own_old HMQ.out.row) (tmV_one ls) (by intro u hu; simp only [List.mem_cons, List.not_mem_nil, or_false] at hu; rcases hu with rfl | rfl <;> rfl))
      go_wp2_with fail
      refine HINS.out.mono ?_
      rintro e w2 ho
      obtain ⟨A', c', rfl, hb2, hm2, hk2⟩ := ins_wheel HMA.out HXA.out i at_ id h2 ho
      have HM2 := hide hm2
      have HK2 := hide hk2
      have d1 : w2.cell? ⟨hw, 1, none⟩ = some (.slice A i cp) := hb2.cell 1
      have f1 := hb2.frozen 1
      clear ho hb2 hm2 hk2
      go_wp2_with fail
      go_ret
      exact ⟨rfl, ⟨i, HTM.out, A', i + 1, c', HM2.out⟩, HK2.out⟩
end Go.Proofs.YthmojneobkaolaaGreatDoor
