/- The contract of (*reader).variable. -/
import Derived.Test.YtjbgkcljjgofnaaDoorWAdd
import Derived.Test.YtjbgkcljjgofnaaDoorWFit
namespace Go.Proofs.YtjbgkcljjgofnaaDoor
open Go.RowKit
set_option linter.unusedVariables false

theorem calls_sym {P : Program} {f : FuncId} {args : Array Value} {w : World} {v : Value} (h : Calls P f args w fun e w' => e = .returned v ∧ w = w') : Calls P f args w fun e w' => e = .returned v ∧ w' = w := h.mono fun _ _ ⟨a, b⟩ => ⟨a, b.symm⟩
def opVar : Op := Op.load 45 (Operand.tmp 69)
theorem opVar_eq : opVar = Op.load 45 (Operand.tmp 69) := rfl
theorem farC {w : World} {g i j : Nat} {x : Value} (h : w.cell? ⟨g, i, none⟩ = some x) (hij : j ≠ i) (v : Value) : (w.setCell ⟨g, j, none⟩ v).cell? ⟨g, i, none⟩ = some x :=
  (World.cell?_setCell_other w ⟨g, j, none⟩ ⟨g, i, none⟩ v (fun e => by cases e; exact hij rfl)).trans h
def VarRel (w0 : World) (gr : Nat) (s t : List UInt8) (ps : List PartD) (bad : Int) (p : Nat) (v : Value) (wr : World) : Prop := ∃ k : Nat, k ≤ t.length ∧ v = .int .i64 ((p + k : Nat) : Int) ∧ nameOk (t.take k) = true ∧ RdAt w0 gr s t ps bad wr
theorem suf_pos {s r : List UInt8} (h : r <:+ s) : ∃ p, s.length - r.length = p ∧ p + r.length = s.length ∧ s.drop p = r := ⟨_, rfl, by have := h.length_le; omega, (drop_of_suf h).2⟩
set_option maxHeartbeats 8000000 in
set_option maxRecDepth 100000 in
theorem variable_any (w0 : World) (gr : Nat) (s t : List UInt8) (c : UInt8) (ps : List PartD) (bad : Int) (w : World) (h : RdAt w0 gr s (c :: t) ps bad w) (hs : s.length ≤ 1000000) (hf : Fit ps (c :: t) s) (q : Bool) :
    Calls Tryd.prog 33 #[.pointer (some ⟨gr, 0, none⟩), .bool q] w fun e w' => e = .returned (.tuple #[]) ∧ RdAt w0 gr s (t.drop (varN t)) (varP t ps q) bad w' := by
  obtain ⟨A, cp, hb, ho⟩ := h.box
  obtain ⟨p, hp, hpl, hpd⟩ := suf_pos h.suf
  have hst : t <:+ s := (List.suffix_cons c t).trans h.suf
  have hpt : s.length - t.length = p + 1 := by simp at hpl; omega
  have hpdt : s.drop (p + 1) = t := by rw [← List.drop_drop, hpd]; rfl
  rw [hp] at hb
  have c0 : w.cell? ⟨gr, 0, none⟩ = some (.string (str s)) := hb.cell 0
  have c1 : w.cell? ⟨gr, 1, none⟩ = some (.int .i64 (p : Int)) := hb.cell 1
  have hfz : w.frozen? ⟨gr, 1, none⟩ = false := hb.frozen 1
  have HM := hide (h.move (p := (p : Int) + 1) hst (by rw [hpt]; omega))
  have HF := hide hf
  have hpl2 : p + t.length + 1 = s.length := by simp at hpl; omega
  have HPL := hide hpl2
  have HPD := hide hpdt
  have HPT := hide hpt
  have hp6 : p + t.length + 1 ≤ 1000000 := by omega
  have hgr := h.lt
  clear h hb ho hp hpl hpd hf hpt hpdt hpl2
  go_enter Tryd.func33, Tryd.ntmps33
  go_upto_region 1 with fail
  generalize w.setCell ⟨gr, 1, none⟩ (.int .i64 ((p : Int) + 1)) = W at *
  clear c0 c1 hfz
  obtain ⟨n, hn⟩ : ∃ n, p + 1 = n := ⟨_, rfl⟩
  rw [hn] at HPT HPD
  have hnt : n + t.length = s.length := by have := HPL.out; omega
  have hn6 : n + t.length ≤ 1000000 := by omega
  clear HPL hp6 hn
  obtain ⟨A, cp, hb, ho⟩ := HM.out.box
  rw [HPT.out] at hb
  have c0 : W.cell? ⟨gr, 0, none⟩ = some (.string (str s)) := hb.cell 0
  have c1 : W.cell? ⟨gr, 1, none⟩ = some (.int .i64 (n : Int)) := hb.cell 1
  have hss : (str s).size = n + t.length := by rw [str_size, hnt]
  clear hb ho
  go_upto_region 2 with fail
  obtain ⟨b, hbb⟩ : ∃ b : Bool, decide (t.head? = some 63) = b := ⟨_, rfl⟩
  have HBB := hide hbb
  go_cut [31] (fun v wx => v = .bool b ∧ W = wx)
  case first =>
    cases ht : t with
    | nil =>
      subst ht
      obtain rfl : b = false := hbb.symm
      go_wp2_with fail
      go_meet
      exact ⟨rfl, rfl⟩
    | cons d t' =>
      have hd : s[n]? = some d := by rw [← HPD.out] at ht; rw [← List.head?_drop, ht]; rfl
      have ix := str_index (P := Tryd.prog) Tryd.underlying9 hd
      have hlt : n < n + t.length := by rw [ht]; simp
      have hb2 : ((d.toNat : Int) == 63) = b := by
        rw [← hbb, ht]
        simp only [List.head?_cons, Option.some.injEq]
        by_cases e : d = 63
        · subst e; rfl
        · rw [decide_eq_false e]
          simp only [beq_eq_false_iff_ne, ne_eq]
          intro e2
          exact e (UInt8.toNat_inj.1 (by have : (63 : UInt8).toNat = 63 := rfl; omega))
      generalize d.toNat = x at *
      clear ht hd hbb
      go_wp2_with fail
      go_meet
      exact ⟨rfl, rfl⟩
  case rest =>
  obtain ⟨rfl, rfl⟩ := hcut
  go_upto_if 31 with fail
  clear hbb
  go_cut [4] (fun v wx => v = .int .i64 ((n + varN t : Nat) : Int) ∧ RdAt w0 gr s t ps bad wx)
  case first =>
    cases b
    · have HVK := hide (show varN t = varK t from by unfold varN; rw [if_neg (of_decide_eq_false HBB.out)])
      go_wp2_with fail
      go_loopw [4] (VarRel w0 gr s t ps bad n) (fun i _ => n + t.length - (intOf i).toNat)
      case atStart => exact ⟨0, Nat.zero_le _, rfl, rfl, HM.out⟩
      case round =>
        obtain ⟨k, hk, rfl, hok, hm⟩ := hrel
        have HOK := hide hok
        have HMR := hide hm
        clear hok
        obtain ⟨A, cp, hb, ho⟩ := hm.box
        rw [HPT.out] at hb
        have c0 : wr.cell? ⟨gr, 0, none⟩ = some (.string (str s)) := hb.cell 0
        have c1 : wr.cell? ⟨gr, 1, none⟩ = some (.int .i64 (n : Int)) := hb.cell 1
        clear hb ho hm
        by_cases hlt : k < t.length
        · have HNA := hide (fun W => calls_sym (name_any (t.take (k + 1)) W (by simp; omega)))
          have hcut : ∀ W, (Instr.slice 9 (.string (str s)) (some (.int .i64 (n : Int))) (some (.int .i64 ((n : Int) + (k : Int) + 1))) none).run Tryd.prog W = .ok (.string (str (t.take (k + 1)))) W := fun W => by
            have := str_cut (P := Tryd.prog) (T := 9) Tryd.underlying9 s (j := n) (k := n + k + 1) (by omega) (by omega) W
            rw [HPD.out, show n + k + 1 - n = k + 1 by omega] at this
            exact this
          have hwr : IntKind.i64.wrap ((n : Int) + (k : Int) + 1) = (n : Int) + (k : Int) + 1 := by rw [IntKind.wrap_i64]; omega
          have hlt2 : decide ((n : Int) + (k : Int) < (s.length : Int)) = true := by simp; omega
          go_upto_region 4 with fail
          go_quiet ((go_at_call 41; exact Calls.quiet_of_same (HNA.out _)))
          have HMQ := hide (HMR.out.extend ((Ext.refl wr).drewN nq))
          generalize wr.drewN nq = W2 at *
          clear hcut hwr hlt2 c0 c1
          cases hb2 : nameB (t.take (k + 1))
          · have hno : nameOk (t.take (k + 1)) = false := by
              have : t.take (k + 1) ≠ [] := by cases t with | nil => simp at hlt | cons => simp
              unfold nameB at hb2
              cases h2 : t.take (k + 1) with
              | nil => exact absurd h2 this
              | cons => rw [h2] at hb2; simpa using hb2
            have HK := hide (HVK.out.trans (varK_of HOK.out hk (.inr hno)).symm)
            clear hno
            go_wp2_with fail
            go_meet
            exact ⟨by rw [HK.out], HMQ.out⟩
          · have hyes : nameOk (t.take (k + 1)) = true := by unfold nameB at hb2; simp at hb2; exact hb2.1
            have HY := hide hyes
            clear hyes
            go_wp2_with fail
            go_roundw
            case rel => exact ⟨k + 1, by omega, by go_num, HY.out, HMQ.out⟩
            case measure => simp [intOf]; omega
        · obtain rfl : k = t.length := by omega
          have hlt2 : decide ((n : Int) + (t.length : Int) < (s.length : Int)) = false := by simp; omega
          go_upto_region 4 with fail
          go_quiet (fail)
          have HMQ := hide (HMR.out.extend ((Ext.refl wr).drewN nq))
          generalize wr.drewN nq = W2 at *
          have HK := hide (HVK.out.trans (varK_of HOK.out (Nat.le_refl _) (.inl rfl)).symm)
          clear hlt2 c0 c1
          go_wp2_with fail
          go_meet
          exact ⟨by rw [HK.out], HMQ.out⟩
    · have HVK := hide (show varN t = 1 from by unfold varN; rw [if_pos (of_decide_eq_true HBB.out)])
      go_wp2_with fail
      go_meet
      exact ⟨by rw [HVK.out]; go_num, HM.out⟩
  case rest =>
  obtain ⟨rfl, hm⟩ := hcut
  have HMC := hide hm
  obtain ⟨A, cp, hb, ho⟩ := hm.box
  rw [HPT.out] at hb
  have c0 : wc.cell? ⟨gr, 0, none⟩ = some (.string (str s)) := hb.cell 0
  have c1 : wc.cell? ⟨gr, 1, none⟩ = some (.int .i64 (n : Int)) := hb.cell 1
  have hvl := varN_le t
  have HVP := hide (show varP t ps q = if varN t = 0 then addP ps [36] q else ps ++ [⟨t.take (varN t), true, q⟩] from rfl)
  obtain ⟨hps, hpt⟩ := HF.out.small hs
  obtain ⟨v, hv⟩ : ∃ v, varN t = v := ⟨_, rfl⟩
  rw [hv] at HVP hvl ⊢
  have HV := hide hv
  clear hv hm HBB
  by_cases hv0 : v = 0
  · subst hv0
    rw [if_pos rfl] at HVP
    have HADD := hide (add_any w0 gr s t ps bad wc HMC.out [36] q (by simp) hps hpt)
    have he : ((n + 0 : Nat) : Int) = (n : Int) := by omega
    rw [he]
    clear hpt hb ho
    go_wp2_with fail
    refine HADD.out.mono ?_
    rintro e w2 ⟨rfl, hm2⟩
    have HM2 := hide hm2
    clear hm2
    go_wp2_with fail
    (first | go_end0 | ((try simp only [Exit.inBlock, Exit.then]); refine bodyPost_ret (results_none rfl _ _ _) rfl ?_))
    exact ⟨rfl, by rw [HVP.out, HV.out, List.drop_zero]; exact HM2.out⟩
  · rw [if_neg hv0] at HVP
    obtain ⟨m, hm⟩ : ∃ m, n + v = m := ⟨_, rfl⟩
    have t1 : ((m : Int) == (n : Int)) = false := by simp; omega
    have hcutr : ∀ W, (Instr.slice 9 (.string (str s)) (some (.int .i64 (n : Int))) (some (.int .i64 (m : Int))) none).run Tryd.prog W = .ok (.string (str (t.take v))) W := fun W => by
      have := str_cut (P := Tryd.prog) (T := 9) Tryd.underlying9 s (j := n) (k := m) (by omega) (by omega) W
      rw [HPD.out, show m - n = v by omega] at this
      exact this
    have HSF := hide (show t.drop v <:+ s from (List.drop_suffix v t).trans hst)
    have HPM := hide (show (m : Int) = ((s.length - (t.drop v).length : Nat) : Int) by simp; omega)
    rw [hm]
    have hm6 : m ≤ 1000000 := by omega
    clear hm
    obtain ⟨i0, hi0, hz0, hz1, hz2⟩ := info_parts part_info
    have HBW := hide hb
    have HOW := hide ho
    have d2 : wc.cell? ⟨gr, 2, none⟩ = some (.slice A ps.length cp) := hb.cell 2
    have n1 : some gr ≠ Value.ownBlock (.slice A ps.length cp) := Ne.symm (own_blk_ne ho hb (by decide))
    have HN1 := hide n1
    obtain ⟨np, hnp⟩ : ∃ np, ps.length = np := ⟨_, rfl⟩
    have HNP := hide hnp
    rw [hnp] at d2 n1 hps ho
    rw [hnp] at HBW HN1
    have HO2 := hide ho
    obtain ⟨X, hX⟩ : ∃ X, str (t.take v) = X := ⟨_, rfl⟩
    have HX := hide hX
    rw [hX] at hcutr
    have hsz := HMC.out.grown.size
    clear hb ho hnp hX hpt
    go_upto_region 8 with fail
    rw [← opVar_eq]
    have hOp := opVar_eq
    have z1 : ∀ o, (wc.alloc o).cell? ⟨gr, 2, none⟩ = some (.slice A np cp) := fun o => ((Ext.refl wc).alloc o).cell d2
    have z2 : ∀ o, (wc.drew.alloc o).cell? ⟨gr, 2, none⟩ = some (.slice A np cp) := fun o => ((Ext.refl wc).drew.alloc o).cell d2
    have z3 : ∀ o, (wc.alloc o).drew.cell? ⟨gr, 2, none⟩ = some (.slice A np cp) := fun o => ((Ext.refl wc).alloc o).drew.cell d2
    have z4 : wc.drew.cell? ⟨gr, 2, none⟩ = some (.slice A np cp) := d2
    go_region_held3 (fun w' => w'.cell? ⟨gr, 0, none⟩ = some (.string (str s)) ∧ w'.cell? ⟨gr, 1, none⟩ = some (.int .i64 (n : Int))) (first | exact k7 | exact ⟨farC k7.1 (by decide) _, farC k7.2 (by decide) _⟩ | exact ⟨c0, c1⟩ | exact ⟨Ext.cell (w := wc) (by ((repeat (first | with_reducible exact Ext.refl _ | with_reducible assumption | with_reducible refine Ext.alloc ?_ _ | with_reducible refine Ext.drew ?_ | with_reducible refine Ext.drewN ?_ _ | with_reducible refine Ext.setCell ?_ (by first | exact Nat.le_refl _ | assumption | (simp; done) | omega) _ | with_reducible refine Ext.trans ?_ (by with_reducible assumption))); done)) c0, Ext.cell (w := wc) (by ((repeat (first | with_reducible exact Ext.refl _ | with_reducible assumption | with_reducible refine Ext.alloc ?_ _ | with_reducible refine Ext.drew ?_ | with_reducible refine Ext.drewN ?_ _ | with_reducible refine Ext.setCell ?_ (by first | exact Nat.le_refl _ | assumption | (simp; done) | omega) _ | with_reducible refine Ext.trans ?_ (by with_reducible assumption))); done)) c1⟩ | go_keep | fail)
      (first | (refine step_append_any _ (by rfl) (.tmp 70) (.tmp 83) 45 (by rfl) w0.heap.size 60 i0 _ 3 24 Tryd.underlying45 hi0 hz0 hz1 hz2 rfl (by omega) (.slice A np cp) np (ps.flatMap partC) (by rfl) (Ext.own (w := wc) (by ((repeat (first | with_reducible exact Ext.refl _ | with_reducible assumption | with_reducible refine Ext.alloc ?_ _ | with_reducible refine Ext.drew ?_ | with_reducible refine Ext.drewN ?_ _ | with_reducible refine Ext.setCell ?_ (by first | exact Nat.le_refl _ | assumption | (simp; done) | omega) _ | with_reducible refine Ext.trans ?_ (by with_reducible assumption))); done)) HO2.out) _ _ 1 1 [.string X, .bool true, .bool q] (by rfl) (by first | exact (Blk.new wc.drew 60 #[.string X, .bool true, .bool q]).rowsF 1 3 rfl | exact (Blk.new wc 60 #[.string X, .bool true, .bool q]).drew.rowsF 1 3 rfl | exact (Blk.new wc 60 #[.string X, .bool true, .bool q]).rowsF 1 3 rfl) (by simp [Value.oneCell']) (by simp only [maxLen]; omega) (by omega) (Nat.le_trans hsz (Ext.size (w := wc) (by ((repeat (first | with_reducible exact Ext.refl _ | with_reducible assumption | with_reducible refine Ext.alloc ?_ _ | with_reducible refine Ext.drew ?_ | with_reducible refine Ext.drewN ?_ _ | with_reducible refine Ext.setCell ?_ (by first | exact Nat.le_refl _ | assumption | (simp; done) | omega) _ | with_reducible refine Ext.trans ?_ (by with_reducible assumption))); done)))) ?_; intro A7 c7 w7 ho7 hg7 ha7; have k7 : w7.cell? ⟨gr, 0, none⟩ = some (.string (str s)) ∧ w7.cell? ⟨gr, 1, none⟩ = some (.int .i64 (n : Int)) := ⟨hg7.cell (Ext.cell (w := wc) (by ((repeat (first | with_reducible exact Ext.refl _ | with_reducible assumption | with_reducible refine Ext.alloc ?_ _ | with_reducible refine Ext.drew ?_ | with_reducible refine Ext.drewN ?_ _ | with_reducible refine Ext.setCell ?_ (by first | exact Nat.le_refl _ | assumption | (simp; done) | omega) _ | with_reducible refine Ext.trans ?_ (by with_reducible assumption))); done)) c0) n1, hg7.cell (Ext.cell (w := wc) (by ((repeat (first | with_reducible exact Ext.refl _ | with_reducible assumption | with_reducible refine Ext.alloc ?_ _ | with_reducible refine Ext.drew ?_ | with_reducible refine Ext.drewN ?_ _ | with_reducible refine Ext.setCell ?_ (by first | exact Nat.le_refl _ | assumption | (simp; done) | omega) _ | with_reducible refine Ext.trans ?_ (by with_reducible assumption))); done)) c1) n1⟩; have k8 : w7.cell? ⟨gr, 2, none⟩ = some (.slice A np cp) := hg7.cell (Ext.cell (w := wc) (by ((repeat (first | with_reducible exact Ext.refl _ | with_reducible assumption | with_reducible refine Ext.alloc ?_ _ | with_reducible refine Ext.drew ?_ | with_reducible refine Ext.drewN ?_ _ | with_reducible refine Ext.setCell ?_ (by first | exact Nat.le_refl _ | assumption | (simp; done) | omega) _ | with_reducible refine Ext.trans ?_ (by with_reducible assumption))); done)) d2) n1; have k9 : w7.frozen? ⟨gr, 2, none⟩ = false := (Blk.grown (Blk.ext HBW.out (by ((repeat (first | with_reducible exact Ext.refl _ | with_reducible assumption | with_reducible refine Ext.alloc ?_ _ | with_reducible refine Ext.drew ?_ | with_reducible refine Ext.drewN ?_ _ | with_reducible refine Ext.setCell ?_ (by first | exact Nat.le_refl _ | assumption | (simp; done) | omega) _ | with_reducible refine Ext.trans ?_ (by with_reducible assumption))); done))) hg7 HN1.out).frozen 2) | fail)
    all_goals
      obtain rfl := HNP.out
      obtain rfl := HX.out
      have HZ := hide (HMC.out.more ⟨t.take v, true, q⟩ (by ((repeat (first | with_reducible exact Ext.refl _ | with_reducible assumption | with_reducible refine Ext.alloc ?_ _ | with_reducible refine Ext.drew ?_ | with_reducible refine Ext.drewN ?_ _ | with_reducible refine Ext.setCell ?_ (by first | exact Nat.le_refl _ | assumption | (simp; done) | omega) _ | with_reducible refine Ext.trans ?_ (by with_reducible assumption))); done)) (by rw [HPT.out]; exact HBW.out) HOW.out ho7 hg7)
      clear ho7 hg7 ha7 k7 k8 k9 z1 z2 z3 z4 hOp c0 c1 d2 n1 HBW HOW HO2 HN1
      generalize w7.setCell ⟨gr, 2, none⟩ (.slice A7 (ps.length + 1) c7) = W9 at *
      rw [← HVP.out] at HZ
      obtain ⟨A9, c9, hb9, ho9⟩ := HZ.out.box
      have hf9 : W9.frozen? ⟨gr, 1, none⟩ = false := hb9.frozen 1
      obtain ⟨x9, hx9⟩ : ∃ x, W9.cell? ⟨gr, 1, none⟩ = some x := ⟨_, hb9.cell 1⟩
      have HZ2 := hide (HZ.out.move HSF.out HPM.out)
      clear hb9 ho9 HZ
      go_wp2_with fail
      (first | go_end0 | ((try simp only [Exit.inBlock, Exit.then]); refine bodyPost_ret (results_none rfl _ _ _) rfl ?_))
      exact ⟨rfl, by rw [HV.out]; exact HZ2.out⟩
end Go.Proofs.YtjbgkcljjgofnaaDoor
