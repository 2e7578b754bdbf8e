/- The contract of (*reader).word. -/
import Derived.Test.YtjbgkcljjgofnaaDoorWDbl
namespace Go.Proofs.YtjbgkcljjgofnaaDoor
open Go.RowKit
set_option linter.unusedVariables false

def WordPost (w0 : World) (gr : Nat) (s : List UInt8) (R : WRes) (w : World) : Prop :=
  match R with
  | .ok ps r => RdAt w0 gr s r ps (-1) w
  | .bad k => ∃ r ps, RdAt w0 gr s r ps ((s.length - k : Nat) : Int) w
def WordRun (w0 : World) (gr : Nat) (s r0 : List UInt8) (R : WRes) (g : Nat) (wr : World) : Prop :=
  ∃ (F : Nat) (r : List UInt8) (ps : List PartD), r.length < F ∧ g = r.length + 1 ∧ wordP F r ps = R ∧ RdAt w0 gr s r ps (-1) wr ∧ Fit ps r s ∧ r.length ≤ r0.length
def WordBad (w0 : World) (gr : Nat) (s : List UInt8) (R : WRes) (g : Nat) (wr : World) : Prop :=
  g = 0 ∧ ∃ (k : Nat) (r : List UInt8) (ps : List PartD), R = .bad k ∧ RdAt w0 gr s r ps ((s.length - k : Nat) : Int) wr
def WordRel (w0 : World) (gr : Nat) (s r0 : List UInt8) (R : WRes) (g : Nat) (v : Value) (wr : World) : Prop := WordRun w0 gr s r0 R g wr ∨ WordBad w0 gr s R g wr
theorem wordP_step (F : Nat) (r : List UInt8) (ps : List PartD) (hF : r.length < F) : ∃ F', r.length ≤ F' ∧ wordP F r ps = match wordS r ps with | .fin => .ok ps r | .bad => .bad r.length | .more ps r => wordP F' r ps := by
  cases F with
  | zero => omega
  | succ F => exact ⟨F, by omega, rfl⟩
def escP (r : List UInt8) (ps : List PartD) : WStep :=
  match r with
  | [] => .bad
  | d :: t' => .more (addP ps [d] true) t'
def stopB (x : UInt8) (r : List UInt8) : Bool := decide (x.toNat = 32 ∨ opL (x :: r) ≠ [])
section
variable {x : UInt8} {r : List UInt8} {ps : List PartD}
theorem wordS_stop (h : stopB x r = true) : wordS (x :: r) ps = .fin := by
  have h := of_decide_eq_true h
  simp only [wordS]
  rw [if_pos h]
theorem wordS_sgl (h : stopB x r = false) (hx : x.toNat = 39) : wordS (x :: r) ps = if (sglL r).length < r.length then .more (addP ps (sglL r) true) (r.drop ((sglL r).length + 1)) else .bad := by
  have h := of_decide_eq_false h
  simp only [wordS]
  rw [if_neg h, if_pos hx]
theorem wordS_dbl (h : stopB x r = false) (hx : x.toNat = 34) : wordS (x :: r) ps = match dblP (r.length + 1) true r ps with | none => .bad | some (ps, r) => .more ps r := by
  have h := of_decide_eq_false h
  simp only [wordS]
  rw [if_neg h, if_neg (by omega), if_pos hx]
  cases dblP (r.length + 1) true r ps <;> rfl
theorem wordS_var (h : stopB x r = false) (hx : x.toNat = 36) : wordS (x :: r) ps = .more (varP r ps false) (r.drop (varN r)) := by
  have h := of_decide_eq_false h
  simp only [wordS]
  rw [if_neg h, if_neg (by omega), if_neg (by omega), if_pos hx]
theorem wordS_esc (h : stopB x r = false) (hx : x.toNat = 92) : wordS (x :: r) ps = escP r ps := by
  have h := of_decide_eq_false h
  simp only [wordS]
  rw [if_neg h, if_neg (by omega), if_neg (by omega), if_neg (by omega), if_pos hx]
  cases r <;> rfl
theorem wordS_any (h : stopB x r = false) (h1 : x.toNat ≠ 39) (h2 : x.toNat ≠ 34) (h3 : x.toNat ≠ 36) (h4 : x.toNat ≠ 92) : wordS (x :: r) ps = .more (addP ps [x] false) r := by
  have h := of_decide_eq_false h
  simp only [wordS]
  rw [if_neg h, if_neg h1, if_neg h2, if_neg h3, if_neg h4]
end
theorem op_sym (l : List UInt8) (w : World) : Calls Tryd.prog 21 #[.string (str l)] w fun e w' => e = .returned (.string (str (opL l))) ∧ w' = w := calls_sym (op_any l w)
set_option maxHeartbeats 8000000 in
set_option maxRecDepth 100000 in
theorem word_any (w0 : World) (gr : Nat) (s r0 : List UInt8) (ps0 : List PartD) (w : World) (h : RdAt w0 gr s r0 ps0 (-1) w) (hs : s.length ≤ 1000000) (hf : Fit ps0 r0 s) :
    Calls Tryd.prog 22 #[.pointer (some ⟨gr, 0, none⟩)] w fun e w' => e = .returned (.tuple #[]) ∧ WordPost w0 gr s (wordP (r0.length + 1) r0 ps0) w' := by
  obtain ⟨R, hR⟩ : ∃ R, wordP (r0.length + 1) r0 ps0 = R := ⟨_, rfl⟩
  rw [hR]
  have HR := hide hR
  have HM := hide h
  have HF := hide hf
  clear hR h hf
  go_enter Tryd.func22, Tryd.ntmps22
  go_wp2_with fail
  go_loopg [2] (r0.length + 1) (WordRel w0 gr s r0 R)
  case atStart => exact .inl ⟨_, r0, ps0, Nat.lt_succ_self _, rfl, HR.out, HM.out, HF.out, Nat.le_refl _⟩
  case round =>
    have hss : (str s).size = s.length := str_size s
    rcases hrel with ⟨F, r, ps, hF, rfl, hres, hm, hfit, hrl⟩ | ⟨rfl, k, r, ps, hk, hm⟩
    · obtain ⟨F', hF', hstep⟩ := wordP_step F r ps hF
      rw [hres] at hstep
      obtain ⟨p1, hp1, hpl1, hpd1⟩ := suf_pos hm.suf
      obtain ⟨A, cp, hb, ho⟩ := hm.box
      rw [hp1] at hb
      have c0 : wr.cell? ⟨gr, 0, none⟩ = some (.string (str s)) := hb.cell 0
      have c1 : wr.cell? ⟨gr, 1, none⟩ = some (.int .i64 (p1 : Int)) := hb.cell 1
      have c3 : wr.cell? ⟨gr, 3, none⟩ = some (.int .i64 (-1)) := hb.cell 3
      have HMR := hide hm
      have HFT := hide hfit
      have HP1 := hide hp1
      have HPD := hide hpd1
      have HSF := hide hm.suf
      clear hres hm hfit hp1 hpd1 hb ho
      cases r with
      | nil =>
        have hst : R = .ok ps [] := hstep
        have HRN := hide hst
        have hlt : decide (p1 < s.length) = false := by simp at hpl1 ⊢; omega
        clear hst hstep
        go_upto_region 0 with fail
        go_quiet (fail)
        have HMQ := hide (HMR.out.extend ((Ext.refl wr).drewN nq))
        generalize wr.drewN nq = W2 at *
        clear c0 c1 c3 hss
        go_wp2_with fail
        (first | go_end0 | ((try simp only [Exit.inBlock, Exit.then]); refine bodyPost_ret (results_none rfl _ _ _) rfl ?_))
        exact ⟨rfl, by rw [HRN.out]; exact HMQ.out⟩
      | cons x r' =>
        have hlt : decide (p1 < s.length) = true := by simp at hpl1 ⊢; omega
        have hget : s[p1]? = some x := by rw [← List.head?_drop, HPD.out]; rfl
        have ix := str_index (P := Tryd.prog) Tryd.underlying9 hget
        have hpl2 : p1 + r'.length + 1 = s.length := by simp at hpl1; omega
        have hp16 : p1 + r'.length + 1 ≤ 1000000 := by omega
        have HST := hide hstep
        have hsr : r' <:+ s := (List.suffix_cons x r').trans HSF.out
        have HSR := hide hsr
        obtain ⟨hps6, hpt6⟩ := HFT.out.small hs
        have HPT6 := hide hpt6
        clear hget hstep hsr hpl1 hpt6
        go_upto_region 0 with fail
        go_quiet (fail)
        have HX1 := hide ((Ext.refl wr).drewN nq)
        have d0 := HX1.out.cell c0
        have d1 := HX1.out.cell c1
        generalize wr.drewN nq = W2 at *
        clear c0 c1 c3
        go_upto_region 1 with fail
        go_quiet (fail)
        have HX2 := hide (HX1.out.trans ((Ext.refl W2).drewN nq))
        have c0 := ((Ext.refl W2).drewN nq).cell d0
        have c1 := ((Ext.refl W2).drewN nq).cell d1
        generalize W2.drewN nq = W3 at *
        have HM3 := hide (HMR.out.extend HX2.out)
        clear d0 d1 HX1 HX2 ix HMR hss hlt
        go_upto_region 4 with fail
        go_cut [52] from 52 to 67 (fun v wx => v = .bool (stopB x r') ∧ Ext W3 wx)
        case first =>
          by_cases x32 : x.toNat = 32
          · have t32 : ((x.toNat : Int) == 32) = true := by simp; omega
            have HE := hide (show stopB x r' = true from decide_eq_true (.inl x32))
            clear x32
            go_quiet (fail)
            go_wp2_with fail
            go_meet
            exact ⟨by rw [HE.out], (Ext.refl W3).drewN _⟩
          · have t32 : ((x.toNat : Int) == 32) = false := by simp; omega
            have HE := hide (show stopB x r' = !(str (opL (x :: r'))).toList.isEmpty by
              rw [Lib.toList_data, str_toList]
              unfold stopB
              cases opL (x :: r') <;> simp [x32])
            have hfr : ∀ W, (Instr.slice 9 (.string (str s)) (some (.int .i64 (p1 : Int))) none none).run Tryd.prog W = .ok (.string (str (x :: r'))) W := fun W => by
              have := str_from (P := Tryd.prog) (T := 9) Tryd.underlying9 s (k := p1) (by omega) W
              rw [HPD.out] at this
              exact this
            have HOP := hide (fun W => op_sym (x :: r') W)
            generalize opL (x :: r') = o at *
            clear x32
            go_quiet ((go_at_call 21; exact Calls.quiet_of_same (HOP.out _)))
            go_wp2_with fail
            go_meet
            exact ⟨by rw [HE.out], (Ext.refl W3).drewN _⟩
        case rest =>
        obtain ⟨rfl, hxc⟩ := hcut
        have HM4 := hide (HM3.out.extend hxc)
        have c0 := hxc.cell c0
        have c1 := hxc.cell c1
        have hw1 : IntKind.i64.wrap ((p1 : Int) + 1) = (p1 : Int) + 1 := by rw [IntKind.wrap_i64]; omega
        have hw2 : IntKind.i64.wrap ((p1 : Int) + 2) = (p1 : Int) + 2 := by rw [IntKind.wrap_i64]; omega
        clear hxc
        cases hstop : stopB x r'
        · have HPN := hide (show (p1 : Int) + 1 = ((s.length - r'.length : Nat) : Int) by omega)
          by_cases x39 : x.toNat = 39
          · rw [wordS_sgl hstop x39] at HST
            have t39 : ((x.toNat : Int) == 39) = true := by simp; omega
            have HSG := hide (single_any w0 gr s r' x ps (-1) wc HM4.out hs HFT.out)
            clear hstop x39 c0 c1 hw1 hw2
            go_wp2_with fail
            refine HSG.out.mono ?_
            rintro e w2 ⟨rfl, hm2⟩
            have HM2 := hide hm2
            clear hm2 HSG
            go_wp2_with fail
            by_cases hlt : (sglL r').length < r'.length
            · rw [if_pos hlt] at HST
              have h2 := HM2.out
              unfold sglR sglPs sglBad at h2
              rw [if_pos hlt, if_pos hlt, if_pos hlt] at h2
              have H2 := hide h2
              clear h2
              go_roundg ((r'.drop ((sglL r').length + 1)).length + 1)
              case rel => exact .inl ⟨F', _, _, by simp at hF' ⊢; omega, rfl, HST.out.symm, H2.out, HFT.out.add (by simp; omega) (by simp; omega) HSF.out.length_le, by simp at hrl ⊢; omega⟩
              case measure => simp; omega
            · rw [if_neg hlt] at HST
              have h2 := HM2.out
              unfold sglBad at h2
              rw [if_neg hlt] at h2
              have H2 := hide h2
              clear h2
              go_roundg 0
              case rel => exact .inr ⟨rfl, _, _, _, HST.out, H2.out⟩
              case measure => simp
          by_cases x34 : x.toNat = 34
          · rw [wordS_dbl hstop x34] at HST
            have t39 : ((x.toNat : Int) == 39) = false := by simp; omega
            have t34 : ((x.toNat : Int) == 34) = true := by simp; omega
            have HSG := hide (double_any w0 gr s r' x ps (-1) wc HM4.out hs HFT.out)
            clear hstop x39 x34 c0 c1 hw1 hw2
            go_wp2_with fail
            refine HSG.out.mono ?_
            rintro e w2 ⟨rfl, hm2⟩
            have HM2 := hide hm2
            clear hm2 HSG
            go_wp2_with fail
            cases hd : dblP (r'.length + 1) true r' ps with
            | none =>
              rw [hd] at HST HM2
              obtain ⟨r9, ps9, h9⟩ := HM2.out
              have H9 := hide h9
              clear h9 hd
              go_roundg 0
              case rel => exact .inr ⟨rfl, _, _, _, HST.out, H9.out⟩
              case measure => simp
            | some y =>
              rw [hd] at HST HM2
              obtain ⟨ps9, r9⟩ := y
              have h1 := dblP_suf _ _ _ _ _ _ hd
              have HFI := hide (Fit.dblP _ _ _ _ _ _ HFT.out.drop1 HSR.out.length_le hd)
              have hl9 := h1.2
              clear hd h1
              go_roundg (r9.length + 1)
              case rel => exact .inl ⟨F', r9, ps9, by simp at hF'; omega, rfl, HST.out.symm, HM2.out, HFI.out, by simp at hrl; omega⟩
              case measure => simp; omega
          by_cases x36 : x.toNat = 36
          · rw [wordS_var hstop x36] at HST
            have t39 : ((x.toNat : Int) == 39) = false := by simp; omega
            have t34 : ((x.toNat : Int) == 34) = false := by simp; omega
            have t36 : ((x.toNat : Int) == 36) = true := by simp; omega
            have HSG := hide (variable_any w0 gr s r' x ps (-1) wc HM4.out hs HFT.out false)
            clear hstop x39 x34 x36 c0 c1 hw1 hw2
            go_wp2_with fail
            refine HSG.out.mono ?_
            rintro e w2 ⟨rfl, hm2⟩
            have HM2 := hide hm2
            clear hm2 HSG
            go_wp2_with fail
            go_roundg ((r'.drop (varN r')).length + 1)
            case rel => exact .inl ⟨F', _, _, by simp at hF' ⊢; omega, rfl, HST.out.symm, HM2.out, HFT.out.var HSF.out.length_le, by simp at hrl ⊢; omega⟩
            case measure => simp; omega
          have t39 : ((x.toNat : Int) == 39) = false := by simp; omega
          have t34 : ((x.toNat : Int) == 34) = false := by simp; omega
          have t36 : ((x.toNat : Int) == 36) = false := by simp; omega
          have hss : (str s).size = s.length := str_size s
          by_cases x92 : x.toNat = 92
          · rw [wordS_esc hstop x92] at HST
            have t92 : ((x.toNat : Int) == 92) = true := by simp; omega
            clear hstop x39 x34 x36 x92
            cases r' with
            | nil =>
              have hend : ((p1 : Int) + 1 == (s.length : Int)) = true := by simp at hpl2 ⊢; omega
              go_upto_region 11 with fail
              go_quiet (fail)
              have HMQ := hide (HM4.out.extend ((Ext.refl wc).drewN nq))
              generalize wc.drewN nq = W5 at *
              obtain ⟨A5, cp5, hb5, ho5⟩ := HMQ.out.box
              rw [HP1.out] at hb5
              have e1 : W5.cell? ⟨gr, 1, none⟩ = some (.int .i64 (p1 : Int)) := hb5.cell 1
              have e3 : W5.cell? ⟨gr, 3, none⟩ = some (.int .i64 (-1)) := hb5.cell 3
              have f3 : W5.frozen? ⟨gr, 3, none⟩ = false := hb5.frozen 3
              have HZ := hide (HMQ.out.spoil (p1 : Int))
              clear hb5 ho5 c0 c1 hw1 hw2 hss
              go_wp2_with fail
              go_roundg 0
              case rel => exact .inr ⟨rfl, _, _, _, HST.out, by rw [HP1.out]; exact HZ.out⟩
              case measure => simp
            | cons d r2 =>
              have hend : ((p1 : Int) + 1 == (s.length : Int)) = false := by simp at hpl2 ⊢; omega
              go_upto_region 11 with fail
              go_quiet (fail)
              have HX5 := hide ((Ext.refl wc).drewN nq)
              have HM5 := hide (HM4.out.extend HX5.out)
              have d0 := HX5.out.cell c0
              have d1 := HX5.out.cell c1
              generalize wc.drewN nq = W5 at *
              have hcutr : ∀ W, (Instr.slice 9 (.string (str s)) (some (.int .i64 ((p1 : Int) + 1))) (some (.int .i64 ((p1 : Int) + 2))) none).run Tryd.prog W = .ok (.string (str [d])) W := fun W => by
                have := str_cut (P := Tryd.prog) (T := 9) Tryd.underlying9 s (j := p1 + 1) (k := p1 + 2) (by omega) (by simp at hpl2; omega) W
                rw [← List.drop_drop, HPD.out, show p1 + 2 - (p1 + 1) = 1 by omega] at this
                exact this
              have HADD := hide (fun W (hx : Ext W5 W) => add_any w0 gr s (x :: d :: r2) ps (-1) W (HM5.out.extend hx) [d] true (by simp) hps6 HPT6.out)
              have HPM := hide (show (p1 : Int) + 2 = ((s.length - r2.length : Nat) : Int) by simp at hpl2; omega)
              have HS2 := hide ((List.suffix_cons d r2).trans HSR.out)
              clear c0 c1 hss hend
              go_upto_region 14 with fail
              go_still_tail 16, (by kernel_rfl)
              go_wp2_with fail
              refine (HADD.out _ (by first | exact (Ext.refl W5).drew | exact (Ext.refl W5).drewN _ | exact Ext.refl W5)).mono ?_
              rintro e w2 ⟨rfl, hm2⟩
              obtain ⟨A, cp, hb, ho⟩ := hm2.box
              rw [HP1.out] at hb
              have e1 : w2.cell? ⟨gr, 1, none⟩ = some (.int .i64 (p1 : Int)) := hb.cell 1
              have ef : w2.frozen? ⟨gr, 1, none⟩ = false := hb.frozen 1
              have HZ := hide (hm2.move HS2.out HPM.out)
              clear hb ho hm2 HADD hcutr d0 d1 hw1 hw2
              go_wp2_with fail
              go_roundg (r2.length + 1)
              case rel => exact .inl ⟨F', r2, _, by simp at hF' ⊢; omega, rfl, HST.out.symm, HZ.out, HFT.out.add (by simp; omega) (by simp; omega) HSF.out.length_le, by simp at hrl ⊢; omega⟩
              case measure => simp
          · rw [wordS_any hstop x39 x34 x36 x92] at HST
            have t92 : ((x.toNat : Int) == 92) = false := by simp; omega
            clear hstop x39 x34 x36 x92
            go_upto_region 11 with fail
            go_quiet (fail)
            have HX5 := hide ((Ext.refl wc).drewN nq)
            have HM5 := hide (HM4.out.extend HX5.out)
            have d0 := HX5.out.cell c0
            have d1 := HX5.out.cell c1
            generalize wc.drewN nq = W5 at *
            have hcutr : ∀ W, (Instr.slice 9 (.string (str s)) (some (.int .i64 (p1 : Int))) (some (.int .i64 ((p1 : Int) + 1))) none).run Tryd.prog W = .ok (.string (str [x])) W := fun W => by
              have := str_cut (P := Tryd.prog) (T := 9) Tryd.underlying9 s (j := p1) (k := p1 + 1) (by omega) (by omega) W
              rw [HPD.out, show p1 + 1 - p1 = 1 by omega] at this
              exact this
            have HADD := hide (fun W (hx : Ext W5 W) => add_any w0 gr s (x :: r') ps (-1) W (HM5.out.extend hx) [x] false (by simp) hps6 HPT6.out)
            clear c0 c1 hss
            go_upto_region 2 with fail
            go_still_tail 15, (by kernel_rfl)
            go_wp2_with fail
            refine (HADD.out _ (by first | exact (Ext.refl W5).drew | exact (Ext.refl W5).drewN _ | exact Ext.refl W5)).mono ?_
            rintro e w2 ⟨rfl, hm2⟩
            obtain ⟨A, cp, hb, ho⟩ := hm2.box
            rw [HP1.out] at hb
            have e1 : w2.cell? ⟨gr, 1, none⟩ = some (.int .i64 (p1 : Int)) := hb.cell 1
            have ef : w2.frozen? ⟨gr, 1, none⟩ = false := hb.frozen 1
            have HZ := hide (hm2.move HSR.out HPN.out)
            clear hb ho hm2 HADD hcutr d0 d1 hw1 hw2
            go_wp2_with fail
            go_roundg (r'.length + 1)
            case rel => exact .inl ⟨F', r', _, by simp at hF' ⊢; omega, rfl, HST.out.symm, HZ.out, HFT.out.add (by simp; omega) (by simp) HSF.out.length_le, by simp at hrl ⊢; omega⟩
            case measure => simp
        · rw [wordS_stop hstop] at HST
          clear hstop
          go_wp2_with fail
          (first | go_end0 | ((try simp only [Exit.inBlock, Exit.then]); refine bodyPost_ret (results_none rfl _ _ _) rfl ?_))
          exact ⟨rfl, by rw [HST.out]; exact HM4.out⟩
    · obtain ⟨A, cp, hb, ho⟩ := hm.box
      have HKB := hide hk
      have HMR := hide hm
      obtain ⟨n, hn⟩ : ∃ n, s.length - k = n := ⟨_, rfl⟩
      rw [hn] at hb HMR
      have HN := hide hn
      have c3 : wr.cell? ⟨gr, 3, none⟩ = some (.int .i64 (n : Int)) := hb.cell 3
      have hneg : decide ((n : Int) < 0) = false := by simp
      clear hk hm hb ho hn
      go_upto_region 0 with fail
      go_quiet (fail)
      have HMQ := hide (HMR.out.extend ((Ext.refl wr).drewN nq))
      generalize wr.drewN nq = W2 at *
      clear c3 hneg
      go_wp2_with fail
      (first | go_end0 | ((try simp only [Exit.inBlock, Exit.then]); refine bodyPost_ret (results_none rfl _ _ _) rfl ?_))
      exact ⟨rfl, by rw [HKB.out]; exact ⟨_, _, by rw [HN.out]; exact HMQ.out⟩⟩
end Go.Proofs.YtjbgkcljjgofnaaDoor
