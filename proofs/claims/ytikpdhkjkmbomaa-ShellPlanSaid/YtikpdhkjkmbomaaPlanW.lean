/- The contract of shell.Plan. -/
import Derived.Test.YtikpdhkjkmbomaaPlanIn
import Derived.StillTailTactics
namespace Go.Proofs.Ytikpdhkjkmbomaa
open Go.RowKit
set_option linter.unusedVariables false

def planOf (ls : List (SimD × Value)) (op : List Int) : List StepD := (planM (ls.map (·.1)) op).steps
def PlanPost (w : World) (ss : List SimD) (op : List Int) (r : Ending) (w' : World) : Prop :=
  (4 ≤ freeN (haveH op) ∧ ∃ A m c, r = .returned (.tuple #[.slice A m c, .int .i64 0]) ∧ m = (planM ss op).steps.length ∧ w'.ownsRow w.heap.size 38 8 (.slice A m c) m ((planM ss op).steps.flatMap stepC) ∧ Ext w w') ∨
  (freeN (haveH op) < 4 ∧ r = .returned (.tuple #[.slice none 0 0, .int .i64 6]) ∧ Ext w w')
def PlanRel (w : World) (gs gm : Nat) (ss : List SimD) (R : MkD × Int) (n : Nat) (v8 v24 : Value) (wr : World) : Prop :=
  ∃ (k : Nat) (x : Int) (M : MkD), k ≤ n ∧ v24 = .int .i64 k ∧ v8 = .int .i64 x ∧ -1 ≤ x ∧ x < 8 ∧ M.steps.length ≤ 18 * k ∧ planL (ss.drop k) ((k : Int) + 1) (M, x) = R ∧ MkAt w gs gm noT M wr
def WaitRel (w : World) (gs gm : Nat) (M R : MkD) (n : Nat) (v : Value) (wr : World) : Prop :=
  ∃ (k : Nat) (M' : MkD), k ≤ n ∧ v = .int .i64 k ∧ M'.steps.length ≤ 200 + k ∧ waitsM M' (n - k) = R ∧ MkAt w gs gm noT M' wr
theorem planL_at (ss : List SimD) (k : Nat) (s : SimD) (n : Nat) (hk : ss[k]? = some s) (hn : ss.length = n) (M : MkD) (x : Int) :
    planL (ss.drop k) ((k : Int) + 1) (M, x) = planL (ss.drop (k + 1)) (((k + 1 : Nat) : Int) + 1) (roundM M ((k : Int) + 1) s (decide (k + 1 = n)) x) := by
  subst hn
  obtain ⟨hlt, rfl⟩ := List.getElem?_eq_some_iff.1 hk
  rw [List.drop_eq_getElem_cons hlt]
  show planL (ss.drop (k + 1)) ((k : Int) + 1 + 1) (roundM M ((k : Int) + 1) ss[k] (decide (ss.drop (k + 1) = [])) x) = _
  have : decide (ss.drop (k + 1) = []) = decide (k + 1 = ss.length) := by
    rw [decide_eq_decide, List.drop_eq_nil_iff]
    omega
  rw [this]
  rfl
section
variable {w0 w : World} {gs gm g : Nat} {T : Track} {m : MkD} {t : TypeId} {cs : Array Value}
theorem MkAt.beside (h : MkAt w0 gs gm T m w) (hb : Blk w g t cs) (hne : g ≠ gs) (hgm : g ≠ gm) (ht : t ≠ 38) (hg : w0.heap.size ≤ g) : MkAt w0 gs gm (updN T g (some (t, cs))) m w := by
  refine StM.less (StM.put h hb hne ht hg) (fun g' x e => ?_)
  by_cases h1 : g' = gm
  · subst h1
    rw [updN_other _ _ _ _ (Ne.symm hgm)]
    exact (updN_same T g' _).trans ((updN_same _ g' _).symm.trans e)
  · have e1 : updN T g (some (t, cs)) g' = some x := (updN_other _ gm g' _ h1).symm.trans e
    by_cases h2 : g' = g
    · subst h2
      rw [updN_same] at e1 ⊢
      exact e1
    · rw [updN_other _ _ _ _ h2] at e1 ⊢
      exact (updN_other T gm g' _ h1).trans e1
theorem MkAt.drop {x : Option (TypeId × Array Value)} (h : MkAt w0 gs gm (updN T g x) m w) (hT : T g = none) : MkAt w0 gs gm T m w := by
  refine StM.less h (fun g' z e => ?_)
  by_cases h1 : g' = gm
  · subst h1
    exact (updN_same _ g' _).trans ((updN_same T g' _).symm.trans e)
  · have e1 : T g' = some z := (updN_other T gm g' _ h1).symm.trans e
    have h2 : g' ≠ g := fun e2 => by rw [e2, hT] at e1; cases e1
    exact (updN_other _ gm g' _ h1).trans ((updN_other T g g' x h2).trans e1)
theorem MkAt.side (h : MkAt w0 gs gm (updN T g (some (t, cs))) m w) (hgm : g ≠ gm) : Blk w g t cs :=
  (h.tr g t cs ((updN_other _ gm g _ hgm).trans (updN_same T g _))).1
end
set_option maxHeartbeats 8000000 in
set_option maxRecDepth 100000 in
theorem plan_any (w : World) (A B : Option Addr) (n c k d : Nat) (ls : List (SimD × Value)) (op : List Int) (hs : SimsIn w A n ls) (hn : 1 ≤ n ∧ n ≤ 6) (ho : Reads w w.heap.size 1 B k (intsV op)) (hk : k ≤ maxLen) (hop : ∀ z ∈ op, 0 ≤ z ∧ z < 8) :
    Calls Try.prog 7 #[.slice A n c, .slice B k d] w (PlanPost w (ls.map (·.1)) op) := by
  have HBG := hide (begin_any w A B n c k d ls op hs hn ho hk hop)
  have HS := hide hs
  have HLS := hide (flat_len simC_len (by omega) hs.row)
  obtain ⟨hn1, hn6⟩ := hn
  clear hs ho hop hk
  go_enter Try.func7, Try.ntmps7
  go_wp2_with fail
  refine HBG.out.mono ?_
  rintro r w1 (⟨hf, gs, gm, rfl, hm1⟩ | ⟨hf, rfl, hx1⟩)
  · have HF := hide hf
    have HM1 := hide hm1
    obtain ⟨R, hR⟩ : ∃ R, planL (ls.map (·.1)) 1 (⟨0, haveH op, []⟩, -1) = R := ⟨_, rfl⟩
    have HPL := hide (show planM (ls.map (·.1)) op = waitsM R.1 n by rw [← hR]; unfold planM; rw [List.length_map, HLS.out])
    have HR := hide hR
    clear hf hm1 hR HBG
    go_wp2_with fail
    go_loopw [8, 24] (PlanRel w gs gm (ls.map (·.1)) R n) (fun _ i _ => n - (intOf i).toNat)
    case atStart => exact ⟨0, -1, _, Nat.zero_le _, rfl, rfl, by omega, by omega, by simp, HR.out, HM1.out⟩
    case round =>
      obtain ⟨q, x, M, hq, rfl, rfl, hx1, hx8, hML, hpl, hmk⟩ := hrel
      have HMQ := hide hmk
      have HPQ := hide hpl
      clear hmk hpl HM1
      by_cases hlt : q < n
      · have hkl : q < ls.length := by rw [HLS.out]; exact hlt
        obtain ⟨bl, off, rfl, hbl⟩ := HS.out.row.addr (by omega) (by omega)
        have hrd := HMQ.out.ext.reads HS.out.row (Nat.le_refl _)
        have r0 := Reads.elem simC_len hrd q hkl (by omega) 0 (by omega) (u := ls[q].2) rfl
        have r1 := Reads.elem simC_len hrd q hkl (by omega) 1 (by omega) (u := .string (str ls[q].1.inn)) rfl
        have r2 := Reads.elem simC_len hrd q hkl (by omega) 2 (by omega) (u := .string (str ls[q].1.out)) rfl
        have r3 := Reads.elem simC_len hrd q hkl (by omega) 3 (by omega) (u := .bool ls[q].1.more) rfl
        have hsat := (HS.out.each _ (List.getElem_mem hkl)).1
        have hpq := planL_at (ls.map (·.1)) q ls[q].1 n (by simp [hkl]) (by simp [HLS.out]) M x
        obtain ⟨s, hss⟩ : ∃ x, ls[q] = x := ⟨_, rfl⟩
        rw [hss] at r0 r1 r2 r3 hsat hpq
        obtain ⟨s, va⟩ := s
        dsimp only at r0 r1 r2 r3 hsat hpq
        have HSAT := hide hsat
        obtain ⟨A', k', c', -, e', -⟩ := hsat
        subst e'
        have HPN := hide (hpq.symm.trans HPQ.out)
        have z0 : wr.cell? ⟨bl, off + q * 4, none⟩ = some (.slice A' (k' + 1) c') := by simpa using r0
        have hbm := HMQ.out.maker
        have hgl := hbm.1.lt
        have hne : wr.heap.size ≠ gs := by
          obtain ⟨_, _, hgs, _⟩ := HMQ.out.box
          have := hgs.lt
          omega
        have h2 : MkAt w gs gm (updN noT wr.heap.size (some (28, #[.slice A' (k' + 1) c', .string (str s.inn), .string (str s.out), .bool s.more]))) M (wr.alloc (.cells #[.slice A' (k' + 1) c', .string (str s.inn), .string (str s.out), .bool s.more] 28)) :=
          (HMQ.out.extend ((Ext.refl wr).alloc _)).beside (Blk.new _ _ _) hne (by omega) (by decide) HMQ.out.ext.size
        have HG := hide (show wr.heap.size ≠ gm by omega)
        have H2 := hide h2
        have hwq : IntKind.i64.wrap ((q : Int) + 1) = (q : Int) + 1 := by rw [IntKind.wrap_i64]; omega
        clear hrd r0 hkl hss hpq HPQ hbm hgl hne h2
        by_cases hl : q + 1 = n
        · have hl1 : ¬ ((q : Int) < (n : Int) - 1) := by omega
          rw [decide_eq_true hl] at HPN
          go_wp2_with fail
          generalize wr.alloc (.cells #[.slice A' (k' + 1) c', .string (str s.inn), .string (str s.out), .bool s.more] 28) = W at *
          obtain ⟨gb, hgb⟩ : ∃ x, wr.heap.size = x := ⟨_, rfl⟩
          rw [hgb] at H2 HG ⊢
          clear hgb
          refine (step_any w gs gm _ M W H2.out (by omega) 2 0 0 0 []).mono ?_
          rintro r w3 ⟨rfl, hm3⟩
          have HM3 := hide hm3
          have hl3 := step_len M ⟨2, 0, 0, 0, []⟩
          have HN := hide (show roundM M ((q : Int) + 1) s true x = (shutM (shutM (childM (stepM M ⟨2, 0, 0, 0, []⟩) ((q : Int) + 1) s x (-1) (-1)) x) (-1), -1) from rfl)
          generalize stepM M ⟨2, 0, 0, 0, []⟩ = M3 at *
          clear hm3 H2
          have hbm := HM3.out.maker.1
          have hbs := HM3.out.side HG.out
          have hcs : ∀ i, w3.cell? ⟨gb, i, none⟩ = (#[.slice A' (k' + 1) c', .string (str s.inn), .string (str s.out), .bool s.more] : Array Value)[i]? := fun i => hbs.cell i
          have b0 : w3.cell? ⟨gb, 0, none⟩ = some (.slice A' (k' + 1) c') := hcs 0
          have b1 : w3.cell? ⟨gb, 1, none⟩ = some (.string (str s.inn)) := hcs 1
          have b2 : w3.cell? ⟨gb, 2, none⟩ = some (.string (str s.out)) := hcs 2
          have b3 : w3.cell? ⟨gb, 3, none⟩ = some (.bool s.more) := hcs 3
          have m0 : w3.cell? ⟨gm, 0, none⟩ = some (.pointer (some ⟨gs, 0, none⟩)) := hbm.cell 0
          have m1 : w3.cell? ⟨gm, 1, none⟩ = some (.int .i64 M3.who) := hbm.cell 1
          have m2 : w3.cell? ⟨gm, 2, none⟩ = some (.bool (M3.hv 0)) := hbm.cell 2
          have m3 : w3.cell? ⟨gm, 3, none⟩ = some (.bool (M3.hv 1)) := hbm.cell 3
          have m4 : w3.cell? ⟨gm, 4, none⟩ = some (.bool (M3.hv 2)) := hbm.cell 4
          have m5 : w3.cell? ⟨gm, 5, none⟩ = some (.bool (M3.hv 3)) := hbm.cell 5
          have m6 : w3.cell? ⟨gm, 6, none⟩ = some (.bool (M3.hv 4)) := hbm.cell 6
          have m7 : w3.cell? ⟨gm, 7, none⟩ = some (.bool (M3.hv 5)) := hbm.cell 7
          have m8 : w3.cell? ⟨gm, 8, none⟩ = some (.bool (M3.hv 6)) := hbm.cell 8
          have m9 : w3.cell? ⟨gm, 9, none⟩ = some (.bool (M3.hv 7)) := hbm.cell 9
          clear hbm hbs hcs
          have HCH := hide (fun (W : World) (h : Ext w3 W) => show Calls Try.prog 12 #[.agg #[.pointer (some ⟨gs, 0, none⟩), .int .i64 M3.who, .bool (M3.hv 0), .bool (M3.hv 1), .bool (M3.hv 2), .bool (M3.hv 3), .bool (M3.hv 4), .bool (M3.hv 5), .bool (M3.hv 6), .bool (M3.hv 7)], .int .i64 ((q : Int) + 1), .agg #[.slice A' (k' + 1) c', .string (str s.inn), .string (str s.out), .bool s.more], .int .i64 x, .int .i64 (-1), .int .i64 (-1)] W (fun r w' => r = .returned (.tuple #[]) ∧ MkAt w gs gm (updN noT gb (some (28, #[.slice A' (k' + 1) c', .string (str s.inn), .string (str s.out), .bool s.more]))) (childM M3 ((q : Int) + 1) s x (-1) (-1)) w') from
            child_any w gs gm _ M3 W (HM3.out.extend h) (by omega) ((q : Int) + 1) s _ HSAT.out x (-1) (-1) ⟨hx1, hx8⟩ (by omega) (by omega))
          go_upto_region 13 with fail
          go_still_tail 9, (by kernel_rfl)
          go_wp2_with fail
          refine (HCH.out _ (by first | exact (Ext.refl w3).drew | exact (Ext.refl w3).drewN _ | exact Ext.refl w3)).mono ?_
          rintro r w4 ⟨rfl, hm4⟩
          have HM4 := hide hm4
          have hl4 := child_len M3 ((q : Int) + 1) s x (-1) (-1)
          generalize childM M3 ((q : Int) + 1) s x (-1) (-1) = M4 at *
          clear hm4 HCH b0 b1 b2 b3 m0 m1 m2 m3 m4 m5 m6 m7 m8 m9 HM3
          go_wp2_with fail
          refine (shut_any w gs gm _ M4 w4 HM4.out (by omega) x hx1 hx8).mono ?_
          rintro r w5 ⟨rfl, hm5⟩
          have HM5 := hide hm5
          have hl5 := shut_len M4 x
          generalize shutM M4 x = M5 at *
          clear hm5 HM4
          go_wp2_with fail
          refine (shut_any w gs gm _ M5 w5 HM5.out (by omega) (-1) (by omega) (by omega)).mono ?_
          rintro r w6 ⟨rfl, hm6⟩
          have HM6 := hide hm6
          have hl6 := shut_len M5 (-1)
          clear hm6 HM5
          rw [HN.out] at HPN
          go_wp2_with fail
          go_roundw
          case rel => exact ⟨q + 1, -1, _, by omega, by go_num, rfl, by omega, by omega, by omega, HPN.out, HM6.out.drop rfl⟩
          case measure => simp [intOf]; omega
        · have hl1 : (q : Int) < (n : Int) - 1 := by omega
          rw [decide_eq_false hl] at HPN
          go_wp2_with fail
          generalize wr.alloc (.cells #[.slice A' (k' + 1) c', .string (str s.inn), .string (str s.out), .bool s.more] 28) = W at *
          obtain ⟨gb, hgb⟩ : ∃ x, wr.heap.size = x := ⟨_, rfl⟩
          rw [hgb] at H2 HG ⊢
          clear hgb
          have HN := hide (show roundM M ((q : Int) + 1) s false x = (shutM (shutM (childM (stepM (leastM (leastM (stepM M ⟨10, 0, 0, 0, []⟩))) ⟨2, 0, 0, 0, []⟩) ((q : Int) + 1) s x (freeI (leastM (stepM M ⟨10, 0, 0, 0, []⟩)).hv) (freeI (stepM M ⟨10, 0, 0, 0, []⟩).hv)) x) (freeI (leastM (stepM M ⟨10, 0, 0, 0, []⟩)).hv), freeI (stepM M ⟨10, 0, 0, 0, []⟩).hv) from by
            show (shutM (shutM (childM (stepM (pipeM M) ⟨2, 0, 0, 0, []⟩) ((q : Int) + 1) s x (freeI (leastM M).hv) (freeI M.hv)) x) (freeI (leastM M).hv), freeI M.hv) = _
            have e1 : (leastM (stepM M ⟨10, 0, 0, 0, []⟩)).hv = (leastM M).hv := by unfold leastM; show (if 0 ≤ freeI M.hv then _ else _ : MkD).hv = _; split <;> rfl
            rw [e1]
            rfl)
          refine (step_any w gs gm _ M W H2.out (by omega) 10 0 0 0 []).mono ?_
          rintro r w1a ⟨rfl, hm1a⟩
          have HM1a := hide hm1a
          have hl1a := step_len M ⟨10, 0, 0, 0, []⟩
          generalize stepM M ⟨10, 0, 0, 0, []⟩ = M1a at *
          clear hm1a H2
          go_wp2_with fail
          refine (least_any w gs gm _ M1a w1a HM1a.out).mono ?_
          rintro r w1b ⟨rfl, hm1b⟩
          have HM1b := hide hm1b
          have hl1b := congrArg List.length (least_steps M1a)
          have ⟨hr1, hr8⟩ := freeI_ge M1a.hv
          generalize leastM M1a = M1b at *
          generalize freeI M1a.hv = rr at *
          clear hm1b HM1a
          go_wp2_with fail
          refine (least_any w gs gm _ M1b w1b HM1b.out).mono ?_
          rintro r w1c ⟨rfl, hm1c⟩
          have HM1c := hide hm1c
          have hl1c := congrArg List.length (least_steps M1b)
          have ⟨hy1, hy8⟩ := freeI_ge M1b.hv
          generalize leastM M1b = M1c at *
          generalize freeI M1b.hv = yy at *
          clear hm1c HM1b
          go_wp2_with fail
          refine (step_any w gs gm _ M1c w1c HM1c.out (by omega) 2 0 0 0 []).mono ?_
          rintro r w3 ⟨rfl, hm3⟩
          have HM3 := hide hm3
          have hl3 := step_len M1c ⟨2, 0, 0, 0, []⟩
          generalize stepM M1c ⟨2, 0, 0, 0, []⟩ = M3 at *
          clear hm3 HM1c
          have hbm := HM3.out.maker.1
          have hbs := HM3.out.side HG.out
          have hcs : ∀ i, w3.cell? ⟨gb, i, none⟩ = (#[.slice A' (k' + 1) c', .string (str s.inn), .string (str s.out), .bool s.more] : Array Value)[i]? := fun i => hbs.cell i
          have b0 : w3.cell? ⟨gb, 0, none⟩ = some (.slice A' (k' + 1) c') := hcs 0
          have b1 : w3.cell? ⟨gb, 1, none⟩ = some (.string (str s.inn)) := hcs 1
          have b2 : w3.cell? ⟨gb, 2, none⟩ = some (.string (str s.out)) := hcs 2
          have b3 : w3.cell? ⟨gb, 3, none⟩ = some (.bool s.more) := hcs 3
          have m0 : w3.cell? ⟨gm, 0, none⟩ = some (.pointer (some ⟨gs, 0, none⟩)) := hbm.cell 0
          have m1 : w3.cell? ⟨gm, 1, none⟩ = some (.int .i64 M3.who) := hbm.cell 1
          have m2 : w3.cell? ⟨gm, 2, none⟩ = some (.bool (M3.hv 0)) := hbm.cell 2
          have m3 : w3.cell? ⟨gm, 3, none⟩ = some (.bool (M3.hv 1)) := hbm.cell 3
          have m4 : w3.cell? ⟨gm, 4, none⟩ = some (.bool (M3.hv 2)) := hbm.cell 4
          have m5 : w3.cell? ⟨gm, 5, none⟩ = some (.bool (M3.hv 3)) := hbm.cell 5
          have m6 : w3.cell? ⟨gm, 6, none⟩ = some (.bool (M3.hv 4)) := hbm.cell 6
          have m7 : w3.cell? ⟨gm, 7, none⟩ = some (.bool (M3.hv 5)) := hbm.cell 7
          have m8 : w3.cell? ⟨gm, 8, none⟩ = some (.bool (M3.hv 6)) := hbm.cell 8
          have m9 : w3.cell? ⟨gm, 9, none⟩ = some (.bool (M3.hv 7)) := hbm.cell 9
          clear hbm hbs hcs
          have HCH := hide (fun (W : World) (h : Ext w3 W) => show Calls Try.prog 12 #[.agg #[.pointer (some ⟨gs, 0, none⟩), .int .i64 M3.who, .bool (M3.hv 0), .bool (M3.hv 1), .bool (M3.hv 2), .bool (M3.hv 3), .bool (M3.hv 4), .bool (M3.hv 5), .bool (M3.hv 6), .bool (M3.hv 7)], .int .i64 ((q : Int) + 1), .agg #[.slice A' (k' + 1) c', .string (str s.inn), .string (str s.out), .bool s.more], .int .i64 x, .int .i64 yy, .int .i64 rr] W (fun r w' => r = .returned (.tuple #[]) ∧ MkAt w gs gm (updN noT gb (some (28, #[.slice A' (k' + 1) c', .string (str s.inn), .string (str s.out), .bool s.more]))) (childM M3 ((q : Int) + 1) s x yy rr) w') from
            child_any w gs gm _ M3 W (HM3.out.extend h) (by omega) ((q : Int) + 1) s _ HSAT.out x yy rr ⟨hx1, hx8⟩ (by omega) (by omega))
          go_upto_region 13 with fail
          go_still_tail 9, (by kernel_rfl)
          go_wp2_with fail
          refine (HCH.out _ (by first | exact (Ext.refl w3).drew | exact (Ext.refl w3).drewN _ | exact Ext.refl w3)).mono ?_
          rintro r w4 ⟨rfl, hm4⟩
          have HM4 := hide hm4
          have hl4 := child_len M3 ((q : Int) + 1) s x yy rr
          generalize childM M3 ((q : Int) + 1) s x yy rr = M4 at *
          clear hm4 HCH b0 b1 b2 b3 m0 m1 m2 m3 m4 m5 m6 m7 m8 m9 HM3
          go_wp2_with fail
          refine (shut_any w gs gm _ M4 w4 HM4.out (by omega) x hx1 hx8).mono ?_
          rintro r w5 ⟨rfl, hm5⟩
          have HM5 := hide hm5
          have hl5 := shut_len M4 x
          generalize shutM M4 x = M5 at *
          clear hm5 HM4
          go_wp2_with fail
          refine (shut_any w gs gm _ M5 w5 HM5.out (by omega) yy (by omega) (by omega)).mono ?_
          rintro r w6 ⟨rfl, hm6⟩
          have HM6 := hide hm6
          have hl6 := shut_len M5 yy
          clear hm6 HM5
          rw [HN.out] at HPN
          go_wp2_with fail
          go_roundw
          case rel => exact ⟨q + 1, rr, _, by omega, by go_num, rfl, by omega, by omega, by omega, HPN.out, HM6.out.drop rfl⟩
          case measure => simp [intOf]; omega
      · obtain rfl : q = n := by omega
        rw [List.drop_eq_nil_of_le (by rw [List.length_map, HLS.out]; exact Nat.le_refl _)] at HPQ
        have HRE := hide (show (M, x) = R from HPQ.out)
        have HPM := hide (show planM (ls.map (·.1)) op = waitsM M q by rw [HPL.out, ← HRE.out])
        clear HPQ HPL HR HRE
        go_wp2_with fail
        go_loopw [64] (WaitRel w gs gm M (waitsM M q) q) (fun i _ => q - (intOf i).toNat)
        case atStart => exact ⟨0, M, Nat.zero_le _, rfl, by omega, rfl, HMQ.out⟩
        case round =>
          obtain ⟨u, M', hu, rfl, hl, hwt, hmk⟩ := hrel
          have HMU := hide hmk
          have HWU := hide hwt
          clear hmk hwt HMQ
          by_cases hlu : u < q
          · go_wp2_with fail
            refine (step_any w gs gm _ M' wr HMU.out (by omega) 4 0 0 0 []).mono ?_
            rintro r w3 ⟨rfl, hm3⟩
            have HM3 := hide hm3
            clear hm3
            have HW2 := hide (show waitsM (stepM M' ⟨4, 0, 0, 0, []⟩) (q - (u + 1)) = waitsM M q by
              have h := HWU.out
              rw [show q - u = (q - (u + 1)) + 1 by omega] at h
              exact h)
            go_wp2_with fail
            go_roundw
            case rel => exact ⟨u + 1, _, by omega, by go_num, by rw [step_len]; omega, HW2.out, HM3.out⟩
            case measure => simp [intOf]; omega
          · obtain rfl : u = q := by omega
            rw [Nat.sub_self] at HWU
            have HME := hide (show M' = waitsM M u from HWU.out)
            obtain ⟨A2, c2, hb2, ho2⟩ := HMU.out.box
            have a0 : wr.cell? ⟨gm, 0, none⟩ = some (.pointer (some ⟨gs, 0, none⟩)) := HMU.out.maker.1.cell 0
            have a1 : wr.cell? ⟨gs, 0, none⟩ = some (.slice A2 M'.steps.length c2) := hb2.cell 0
            have HO2 := hide ho2
            have HX2 := hide HMU.out.ext
            clear hb2 ho2 HMU HWU
            go_wp2_with fail
            go_ret2
            exact .inl ⟨HF.out, A2, _, c2, rfl, by rw [HPM.out, HME.out], by rw [HPM.out, ← HME.out]; exact HO2.out, HX2.out⟩
  · have HX := hide hx1
    have HF := hide hf
    clear hx1 hf
    go_wp2_with fail
    go_ret2
    exact .inr ⟨HF.out, rfl, HX.out⟩
end Go.Proofs.Ytikpdhkjkmbomaa
