/- The contract of (*reader).double. -/
import Derived.Test.YtjbgkcljjgofnaaDoorWSgl
namespace Go.Proofs.YtjbgkcljjgofnaaDoor
open Go.RowKit
set_option linter.unusedVariables false

theorem esc_any (d : UInt8) (w : World) : Calls Tryd.prog 40 #[.string ⟨#[34, 92, 36]⟩, .int .u8 (d.toNat : Int)] w fun e w' => e = .returned (.int .i64 (Lib.indexByte [34, 92, 36] d)) ∧ w' = w := by
  have h := idx_any [34, 92, 36] d.toNat w
  have e : d.toNat.toUInt8 = d := UInt8.ofNat_toNat
  rw [e] at h
  exact h.mono fun _ _ ⟨a, b⟩ => ⟨a, b.symm⟩
def escAt (x : UInt8) (r : List UInt8) : Bool := decide (x.toNat = 92) && (match r with | [] => false | d :: _ => escB d)
theorem dblS_quote {first : Bool} {x : UInt8} {r : List UInt8} {ps : List PartD} (h : x.toNat = 34) : dblS first (x :: r) ps = .fin (if first = true then addP ps [] true else ps) r := by simp [dblS, h]
theorem dblS_var {first : Bool} {x : UInt8} {r : List UInt8} {ps : List PartD} (h : x.toNat = 36) : dblS first (x :: r) ps = .more (varP r ps true) (r.drop (varN r)) := by simp [dblS, h]
theorem dblS_rest {first : Bool} {x : UInt8} {r : List UInt8} {ps : List PartD} (h1 : x.toNat ≠ 34) (h2 : x.toNat ≠ 36) : dblS first (x :: r) ps = if escAt x r = true then .more (addP ps (r.take 1) true) (r.drop 1) else .more (addP ps [x] true) r := by
  cases r with
  | nil => simp [dblS, h1, h2, escAt]
  | cons d r =>
    by_cases h3 : x.toNat = 92
    · simp [dblS, h3, escAt]
    · simp [dblS, h1, h2, h3, escAt]
def DblPost (w0 : World) (gr : Nat) (s : List UInt8) (bad : Int) (p : Nat) (R : Option (List PartD × List UInt8)) (w : World) : Prop :=
  match R with
  | some x => RdAt w0 gr s x.2 x.1 bad w
  | none => ∃ r ps, RdAt w0 gr s r ps (p : Int) w
def DblRel (w0 : World) (gr : Nat) (s t : List UInt8) (bad : Int) (R : Option (List PartD × List UInt8)) (g : Nat) (v : Value) (wr : World) : Prop :=
  ∃ (F : Nat) (first : Bool) (r : List UInt8) (ps : List PartD), r.length < F ∧ g = r.length ∧ dblP F first r ps = R ∧ RdAt w0 gr s r ps bad wr ∧ Fit ps r s ∧ r.length ≤ t.length ∧ (first = decide (r.length = t.length))
theorem dblP_step (F : Nat) (first : Bool) (r : List UInt8) (ps : List PartD) (hF : r.length < F) : ∃ F', r.length ≤ F' ∧ dblP F first r ps = match dblS first r ps with | .bad => none | .fin ps r => some (ps, r) | .more ps r => dblP F' false r ps := by
  cases F with
  | zero => omega
  | succ F => exact ⟨F, by omega, rfl⟩
set_option maxHeartbeats 8000000 in
set_option maxRecDepth 100000 in
theorem double_any (w0 : World) (gr : Nat) (s t : List UInt8) (c : UInt8) (ps : List PartD) (bad : Int) (w : World) (h : RdAt w0 gr s (c :: t) ps bad w) (hs : s.length ≤ 1000000) (hf : Fit ps (c :: t) s) :
    Calls Tryd.prog 32 #[.pointer (some ⟨gr, 0, none⟩)] w fun e w' => e = .returned (.tuple #[]) ∧ DblPost w0 gr s bad (s.length - (c :: t).length) (dblP (t.length + 1) true t ps) w' := by
  obtain ⟨A, cp, hb, ho⟩ := h.box
  obtain ⟨p, hp, hpl, hpd⟩ := suf_pos h.suf
  have hst : t <:+ s := (List.suffix_cons c t).trans h.suf
  have hpl2 : p + t.length + 1 = s.length := by simp at hpl; omega
  rw [hp] at hb ⊢
  have c1 : w.cell? ⟨gr, 1, none⟩ = some (.int .i64 (p : Int)) := hb.cell 1
  have hfz : w.frozen? ⟨gr, 1, none⟩ = false := hb.frozen 1
  have HM := hide (h.move (p := (p : Int) + 1) hst (by omega))
  have HF := hide hf
  have hp6 : p + t.length + 1 ≤ 1000000 := by omega
  have HPL := hide hpl2
  obtain ⟨R, hR⟩ : ∃ R, dblP (t.length + 1) true t ps = R := ⟨_, rfl⟩
  rw [hR]
  have HR := hide hR
  clear h hb ho hp hpl hpd hpl2 hR hf
  go_enter Tryd.func32, Tryd.ntmps32
  go_upto_region 1 with fail
  go_upto_region 2 with fail
  generalize w.setCell ⟨gr, 1, none⟩ (.int .i64 ((p : Int) + 1)) = W at *
  clear c1 hfz
  go_wp2_with fail
  go_loopg [3] t.length (DblRel w0 gr s t bad R)
  case atStart => exact ⟨_, true, t, ps, Nat.lt_succ_self _, rfl, HR.out, HM.out, HF.out.drop1, Nat.le_refl _, by simp⟩
  case round =>
    obtain ⟨F, first, r, ps1, hF, rfl, hres, hm, hfit, hrl, hfirst⟩ := hrel
    obtain ⟨F', hF', hstep⟩ := dblP_step F first r ps1 hF
    rw [hres] at hstep
    obtain ⟨p1, hp1, hpl1, hpd1⟩ := suf_pos hm.suf
    obtain ⟨A, cp, hb, ho⟩ := hm.box
    rw [hp1] at hb
    have c0 : wr.cell? ⟨gr, 0, none⟩ = some (.string (str s)) := hb.cell 0
    have c1 : wr.cell? ⟨gr, 1, none⟩ = some (.int .i64 (p1 : Int)) := hb.cell 1
    have HMR := hide hm
    have HFT := hide hfit
    have HP1 := hide hp1
    have HPD := hide hpd1
    have HSF := hide hm.suf
    clear hres hm hfit hp1 hpd1 hb ho
    have hss : (str s).size = s.length := str_size s
    cases r with
    | nil =>
      have hst : R = none := hstep
      have HRN := hide hst
      have hlt : decide (p1 < s.length) = false := by simp at hpl1 ⊢; omega
      clear hst hstep hfirst
      go_upto_region 2 with fail
      go_quiet (fail)
      have HMQ := hide (HMR.out.extend ((Ext.refl wr).drewN nq))
      generalize wr.drewN nq = W2 at *
      clear c0 c1 hss
      obtain ⟨A, cp, hb, ho⟩ := HMQ.out.box
      have c3 : W2.cell? ⟨gr, 3, none⟩ = some (.int .i64 bad) := hb.cell 3
      have f3 : W2.frozen? ⟨gr, 3, none⟩ = false := hb.frozen 3
      have HZ := hide (HMQ.out.spoil (p : Int))
      clear hb ho
      go_wp2_with fail
      (first | go_end0 | ((try simp only [Exit.inBlock, Exit.then]); refine bodyPost_ret (results_none rfl _ _ _) rfl ?_))
      exact ⟨rfl, by rw [HRN.out]; exact ⟨_, _, HZ.out⟩⟩
    | cons x r' =>
      have hlt : decide (p1 < s.length) = true := by simp at hpl1 ⊢; omega
      have hget : s[p1]? = some x := by rw [← List.head?_drop, HPD.out]; rfl
      have ix := str_index (P := Tryd.prog) Tryd.underlying9 hget
      have hps := hfirst
      have HFI := hide hfirst
      have hpl2 : p1 + r'.length + 1 = s.length := by simp at hpl1; omega
      have hp16 : p1 + r'.length + 1 ≤ 1000000 := by omega
      have HST := hide hstep
      have hsr : r' <:+ s := (List.suffix_cons x r').trans HSF.out
      have HSR := hide hsr
      have hfb : ((p1 : Int) == (p : Int) + 1) = first := by
        rw [hfirst]
        have := HPL.out
        by_cases e : (x :: r').length = t.length
        · rw [decide_eq_true e]; simp at e ⊢; omega
        · rw [decide_eq_false e]; simp at e ⊢; omega
      obtain ⟨hps6, hpt6⟩ := HFT.out.small hs
      have HPT6 := hide hpt6
      clear hget hps hstep hsr hfirst hpl1 hpt6
      go_upto_region 2 with fail
      go_quiet (fail)
      have HX1 := hide ((Ext.refl wr).drewN nq)
      have d0 := HX1.out.cell c0
      have d1 := HX1.out.cell c1
      generalize wr.drewN nq = W2 at *
      clear c0 c1
      go_upto_region 3 with fail
      go_quiet (fail)
      have HX2 := hide (HX1.out.trans ((Ext.refl W2).drewN nq))
      have c0 := ((Ext.refl W2).drewN nq).cell d0
      have c1 := ((Ext.refl W2).drewN nq).cell d1
      generalize W2.drewN nq = W3 at *
      have HM3 := hide (HMR.out.extend HX2.out)
      clear d0 d1 HX1 HX2 ix HMR hss hlt
      by_cases x34 : x.toNat = 34
      · rw [dblS_quote x34] at HST
        have t34 : ((x.toNat : Int) == 34) = true := by simp; omega
        have HPM := hide (show (p1 : Int) + 1 = ((s.length - r'.length : Nat) : Int) by omega)
        cases first
        · obtain ⟨A, cp, hb, ho⟩ := HM3.out.box
          have f1 : W3.frozen? ⟨gr, 1, none⟩ = false := hb.frozen 1
          have HZ := hide (HM3.out.move HSR.out HPM.out)
          clear hb ho
          go_upto_region 9 with fail
          go_wp2_with fail
          (first | go_end0 | ((try simp only [Exit.inBlock, Exit.then]); refine bodyPost_ret (results_none rfl _ _ _) rfl ?_))
          exact ⟨rfl, by rw [HST.out]; exact HZ.out⟩
        · have HADD := hide (add_any w0 gr s (x :: r') ps1 bad W3 HM3.out [] true (by simp) hps6 HPT6.out)
          go_wp2_with fail
          refine HADD.out.mono ?_
          rintro e w2 ⟨rfl, hm2⟩
          obtain ⟨A, cp, hb, ho⟩ := hm2.box
          rw [HP1.out] at hb
          have c1 : w2.cell? ⟨gr, 1, none⟩ = some (.int .i64 (p1 : Int)) := hb.cell 1
          have f1 : w2.frozen? ⟨gr, 1, none⟩ = false := hb.frozen 1
          have HZ := hide (hm2.move HSR.out HPM.out)
          clear hb ho hm2 HADD
          go_wp2_with fail
          (first | go_end0 | ((try simp only [Exit.inBlock, Exit.then]); refine bodyPost_ret (results_none rfl _ _ _) rfl ?_))
          exact ⟨rfl, by rw [HST.out]; exact HZ.out⟩
      by_cases x36 : x.toNat = 36
      · rw [dblS_var x36] at HST
        have t34 : ((x.toNat : Int) == 34) = false := by simp; omega
        have t36 : ((x.toNat : Int) == 36) = true := by simp; omega
        have HVA := hide (variable_any w0 gr s r' x ps1 bad W3 HM3.out hs HFT.out true)
        clear x36 x34
        go_wp2_with fail
        refine HVA.out.mono ?_
        rintro e w2 ⟨rfl, hm2⟩
        have HM2 := hide hm2
        clear hm2 HVA
        go_wp2_with fail
        go_roundg (r'.drop (varN r')).length
        case rel => exact ⟨F', false, _, _, by simp at hF' ⊢; omega, rfl, HST.out.symm, HM2.out, HFT.out.var HSF.out.length_le, by simp at hrl ⊢; omega, by simp at hrl ⊢; omega⟩
        case measure => simp; omega
      rw [dblS_rest x34 x36] at HST
      have t34 : ((x.toNat : Int) == 34) = false := by simp; omega
      have t36 : ((x.toNat : Int) == 36) = false := by simp; omega
      clear x34 x36
      go_upto_region 12 with fail
      go_cut [81] from 81 to 110 (fun v wx => v = .bool (escAt x r') ∧ Ext W3 wx)
      case first =>
        have hw1 : IntKind.i64.wrap ((p1 : Int) + 1) = (p1 : Int) + 1 := by rw [IntKind.wrap_i64]; omega
        have hss : (str s).size = s.length := str_size s
        by_cases x92 : x.toNat = 92
        · have t92 : ((x.toNat : Int) == 92) = true := by simp; omega
          cases r' with
          | nil =>
            have hlt : decide ((p1 : Int) + 1 < (s.length : Int)) = false := by simp at hpl2 ⊢; omega
            have HE := hide (show escAt x [] = false by simp [escAt])
            clear x92
            go_quiet (fail)
            go_wp2_with fail
            go_meet
            exact ⟨by rw [HE.out], (Ext.refl W3).drewN _⟩
          | cons d r2 =>
            have hlt : decide ((p1 : Int) + 1 < (s.length : Int)) = true := by simp at hpl2 ⊢; omega
            have hget : s[p1 + 1]? = some d := by rw [← List.getElem?_drop, HPD.out]; rfl
            have ix : ∀ W, (Instr.index 9 (.string (str s)) (.int .i64 ((p1 : Int) + 1))).run Tryd.prog W = .ok (.int .u8 (d.toNat : Int)) W := str_index (P := Tryd.prog) Tryd.underlying9 hget
            have HE := hide (show escAt x (d :: r2) = escB d by simp [escAt, x92])
            have tz := idx_esc d
            have HIX := hide (fun W => esc_any d W)
            generalize Lib.indexByte [34, 92, 36] d = z at *
            generalize escB d = e at *
            clear x92 hget
            go_quiet ((go_at_call 40; exact Calls.quiet_of_same (HIX.out _)))
            go_wp2_with fail
            go_meet
            exact ⟨by rw [HE.out], (Ext.refl W3).drewN _⟩
        · have t92 : ((x.toNat : Int) == 92) = false := by simp; omega
          have HE := hide (show escAt x r' = false by simp [escAt, x92])
          clear x92
          go_quiet (fail)
          go_wp2_with fail
          go_meet
          exact ⟨by rw [HE.out], (Ext.refl W3).drewN _⟩
      case rest =>
      obtain ⟨rfl, hxc⟩ := hcut
      have HM4 := hide (HM3.out.extend hxc)
      have c0 := hxc.cell c0
      have c1 := hxc.cell c1
      have hw1 : IntKind.i64.wrap ((p1 : Int) + 1) = (p1 : Int) + 1 := by rw [IntKind.wrap_i64]; omega
      have hw2 : IntKind.i64.wrap ((p1 : Int) + 2) = (p1 : Int) + 2 := by rw [IntKind.wrap_i64]; omega
      obtain ⟨e, he⟩ : ∃ e, escAt x r' = e := ⟨_, rfl⟩
      rw [he] at HST ⊢
      cases e
      · rw [if_neg (by decide)] at HST
        have hcutr : ∀ W, (Instr.slice 9 (.string (str s)) (some (.int .i64 (p1 : Int))) (some (.int .i64 ((p1 : Int) + 1))) none).run Tryd.prog W = .ok (.string (str [x])) W := fun W => by
          have := str_cut (P := Tryd.prog) (T := 9) Tryd.underlying9 s (j := p1) (k := p1 + 1) (by omega) (by omega) W
          rw [HPD.out, show p1 + 1 - p1 = 1 by omega] at this
          exact this
        have HADD := hide (fun W (hx : Ext wc W) => add_any w0 gr s (x :: r') ps1 bad W (HM4.out.extend hx) [x] true (by simp) hps6 HPT6.out)
        have HPM := hide (show (p1 : Int) + 1 = ((s.length - r'.length : Nat) : Int) by omega)
        clear he hxc
        go_upto_region 4 with fail
        go_still_tail 15, (by kernel_rfl)
        go_wp2_with fail
        refine (HADD.out _ (by first | exact (Ext.refl wc).drew | exact (Ext.refl wc).drewN _ | exact Ext.refl wc)).mono ?_
        rintro e w2 ⟨rfl, hm2⟩
        obtain ⟨A, cp, hb, ho⟩ := hm2.box
        rw [HP1.out] at hb
        have e1 : w2.cell? ⟨gr, 1, none⟩ = some (.int .i64 (p1 : Int)) := hb.cell 1
        have ef : w2.frozen? ⟨gr, 1, none⟩ = false := hb.frozen 1
        have HZ := hide (hm2.move HSR.out HPM.out)
        clear hb ho hm2 HADD hcutr c0 c1 hw1 hw2
        go_wp2_with fail
        go_roundg r'.length
        case rel => exact ⟨F', false, _, _, by simp at hF' ⊢; omega, rfl, HST.out.symm, HZ.out, HFT.out.add (by simp; omega) (by simp) HSF.out.length_le, by simp at hrl ⊢; omega, by simp at hrl ⊢; omega⟩
        case measure => simp
      · rw [if_pos rfl] at HST
        have hne : r' ≠ [] := by rintro rfl; simp [escAt] at he
        obtain ⟨d, r2, rfl⟩ := List.exists_cons_of_ne_nil hne
        have hcutr : ∀ W, (Instr.slice 9 (.string (str s)) (some (.int .i64 ((p1 : Int) + 1))) (some (.int .i64 ((p1 : Int) + 2))) none).run Tryd.prog W = .ok (.string (str [d])) W := fun W => by
          have := str_cut (P := Tryd.prog) (T := 9) Tryd.underlying9 s (j := p1 + 1) (k := p1 + 2) (by omega) (by simp at hpl2; omega) W
          rw [← List.drop_drop, HPD.out, show p1 + 2 - (p1 + 1) = 1 by omega] at this
          exact this
        have HADD := hide (fun W (hx : Ext wc W) => add_any w0 gr s (x :: d :: r2) ps1 bad W (HM4.out.extend hx) [d] true (by simp) hps6 HPT6.out)
        have HPM := hide (show (p1 : Int) + 2 = ((s.length - r2.length : Nat) : Int) by simp at hpl2; omega)
        have HS2 := hide ((List.suffix_cons d r2).trans HSR.out)
        clear he hxc hne
        go_upto_region 13 with fail
        go_still_tail 16, (by kernel_rfl)
        go_wp2_with fail
        refine (HADD.out _ (by first | exact (Ext.refl wc).drew | exact (Ext.refl wc).drewN _ | exact Ext.refl wc)).mono ?_
        rintro e w2 ⟨rfl, hm2⟩
        obtain ⟨A, cp, hb, ho⟩ := hm2.box
        rw [HP1.out] at hb
        have e1 : w2.cell? ⟨gr, 1, none⟩ = some (.int .i64 (p1 : Int)) := hb.cell 1
        have ef : w2.frozen? ⟨gr, 1, none⟩ = false := hb.frozen 1
        have HZ := hide (hm2.move HS2.out HPM.out)
        clear hb ho hm2 HADD hcutr c0 c1 hw1 hw2
        go_wp2_with fail
        go_roundg r2.length
        case rel => exact ⟨F', false, r2, _, by simp at hF' ⊢; omega, rfl, HST.out.symm, HZ.out, HFT.out.add (by simp; omega) (by simp; omega) HSF.out.length_le, by simp at hrl ⊢; omega, by simp at hrl ⊢; omega⟩
        case measure => simp; omega
end Go.Proofs.YtjbgkcljjgofnaaDoor
