/- The walk of BindApart. -/
import Derived.Test.YtljlniehbenefaaDoorBdObjs
import Derived.Test.YtljlniehbenefaaDoorBdLinked
namespace Go.Proofs.YtljlniehbenefaaDoor
open Go.RowKit
set_option linter.unusedVariables false

/-- Lists of objects of raw parts are good ones, and small. -/
structure Facts (acc : List ObX) : Prop where
  len : acc.length ≤ 6
  chk : ∀ p ∈ acc, ChkOk p.1
  sm : ∀ p ∈ acc, ObSm p.1
  code : ∀ p ∈ acc, p.1.code.length ≤ 20
  data : ∀ p ∈ acc, p.1.data.length ≤ 40
theorem facts_of {w : World} {A : Option Addr} {n : Nat} {l : List RawP} (h : PartsRd w A n l) {acc : List ObX} (ha : acc.map Prod.fst = (l.take 6).map RawP.o) : Facts acc := by
  have hm : ∀ p ∈ acc, ∃ r ∈ l, p.1 = r.o := by
    intro p hp
    have h1 : p.1 ∈ acc.map Prod.fst := List.mem_map.2 ⟨p, hp, rfl⟩
    rw [ha] at h1
    obtain ⟨r, hr, e⟩ := List.mem_map.1 h1
    exact ⟨r, List.mem_of_mem_take hr, e.symm⟩
  refine ⟨?_, fun p hp => ?_, fun p hp => ?_, fun p hp => ?_, fun p hp => ?_⟩
  · have := congrArg List.length ha
    rw [List.length_map, List.length_map, List.length_take] at this
    omega
  · obtain ⟨r, hr, e⟩ := hm p hp
    rw [e]
    exact objR_ok _ _ _ _
  · obtain ⟨r, hr, e⟩ := hm p hp
    rw [e]
    exact chk_sm (objR_ok _ _ _ _) (objR_word (h.each r hr).word _ _ _)
  · obtain ⟨r, hr, e⟩ := hm p hp
    rw [e]
    show (r.code.take 20).length ≤ 20
    rw [List.length_take]; omega
  · obtain ⟨r, hr, e⟩ := hm p hp
    rw [e]
    show (r.data.take 40).length ≤ 40
    rw [List.length_take]; omega
theorem Facts.fits {acc : List ObX} (h : Facts acc) : endL acc ≤ 1024 := by
  have h0 := h.len
  have h1 := sum_le_mul (fun p : ObX => 4 * p.1.code.length) 80 acc (fun p hp => by have := h.code p hp; omega)
  have h2 := sum_le_mul (fun p : ObX => upN p.1.data.length 4) 43 acc (fun p hp => by have h1 := h.data p hp; have h2 := (upN_bd p.1.data.length 4 (by omega)).2; omega)
  have h3 := (upN_bd (16 + cLen acc) 16 (by omega)).2
  unfold endL dBeg dLen
  unfold cLen at *
  omega
def Ap1Rel (w2 : World) (ps : List ObX) (v7 v33 : Value) (wr : World) : Prop := ∃ k : Nat, k ≤ ps.length ∧ v33 = .int .i64 k ∧ v7 = .int .i64 (cAt ps k : Int) ∧ Ext w2 wr
/-- The end of the data so far. -/
def dE (ps : List ObX) (k : Nat) : Nat := if k = 0 then 16 + cLen ps else dAt ps (k - 1) + ((ps[k - 1]?).map fun p => p.1.data.length).getD 0
theorem dE_succ (ps : List ObX) (k : Nat) (h : k < ps.length) : dE ps (k + 1) = dAt ps k + ps[k].1.data.length := by
  unfold dE
  rw [if_neg (by omega), Nat.add_sub_cancel, List.getElem?_eq_getElem h]
  rfl
theorem dE_le (ps : List ObX) (k : Nat) (h : k ≤ ps.length) : dE ps k ≤ dAt ps k := by
  cases k with
  | zero =>
    have := (upN_bd (16 + cLen ps) 16 (by omega)).1
    show 16 + cLen ps ≤ _
    unfold dAt dBeg
    omega
  | succ k =>
    rw [dE_succ ps k h]
    have h1 := dLen_next ps k h
    have h2 := (upN_bd ps[k].1.data.length 4 (by omega)).1
    unfold dAt
    omega
theorem upN_mod4 (n : Nat) : upN n 4 % 4 = 0 ∧ upN n 16 % 16 = 0 := by unfold upN; omega
theorem sum_mod4 : ∀ l : List ObX, dLen l % 4 = 0 := by
  intro l
  induction l with
  | nil => rfl
  | cons a l ih =>
    have := (upN_mod4 a.1.data.length).1
    unfold dLen at *
    rw [List.map_cons, List.sum_cons]
    omega
theorem dAt_mod4 (ps : List ObX) (k : Nat) : dAt ps k % 4 = 0 := by
  have h1 := sum_mod4 (ps.take k)
  have h2 := (upN_mod4 (16 + cLen ps)).2
  unfold dAt dBeg
  omega
theorem dAt_zero (ps : List ObX) : dAt ps 0 / 16 ≠ (16 + cLen ps - 1) / 16 := by
  have h2 := (upN_mod4 (16 + cLen ps)).2
  have h3 := (upN_bd (16 + cLen ps) 16 (by omega)).1
  unfold dAt dBeg
  simp only [List.take_zero]
  show (upN (16 + cLen ps) 16 + 0) / 16 ≠ _
  omega
theorem dE_pos (ps : List ObX) (k : Nat) : 16 ≤ dE ps k := by
  unfold dE
  split
  · omega
  · have h3 := (upN_bd (16 + cLen ps) 16 (by omega)).1
    unfold dAt dBeg
    omega
def Ap2Rel (w2 : World) (ps : List ObX) (v7 v55 : Value) (wr : World) : Prop := ∃ k : Nat, k ≤ ps.length ∧ v55 = .int .i64 k ∧ v7 = .int .i64 (dE ps k : Int) ∧ Ext w2 wr
theorem wrap64_small (x : Nat) (h : x ≤ 100000) : wrap64 (x : Int) = (x : Int) := by rw [wrap64]; omega
set_option maxHeartbeats 8000000 in
set_option maxRecDepth 100000 in
theorem apart_walk (A : Option Addr) (n c : Nat) (l : List RawP) (w : World) (h : PartsRd w A n l) :
    Calls Tryd.prog 4 #[.slice A n c] w fun e w' => e = .returned (.bool true) ∧ Ext w w' := by
  have HP := hide h
  have HOB := hide (objects_any A n c l w h)
  clear h
  go_enter Tryd.func4, Tryd.ntmps4
  go_wp2_with fail
  refine HOB.out.mono ?_
  rintro e w1 ⟨ps, A1, c1, rfl, hacc, hst⟩
  have hf := facts_of HP.out hacc
  have HF := hide hf
  have HG := hide (hst.good hf.chk hf.sm)
  have HX1 := hide hst.ext
  have hn6 := hf.len
  have hfit := hf.fits
  have HFIT := hide hfit
  have HSP := hide (spots_any A1 ps.length c1 ps w1 HG.out (by omega) hfit)
  clear hacc hst hf HOB
  go_wp2_with fail
  refine HSP.out.mono ?_
  rintro e w2 ⟨As, cs, rfl, ho2, hx2⟩
  have HRS := hide (Reads.of_own ho2)
  have HX2 := hide (HX1.out.trans hx2)
  have HG2 := hide (HG.out.ext hx2)
  clear ho2 hx2 HSP HX1 HG
  have hcb := cLen_bd HF.out.chk (by omega)
  go_wp2_with fail
  refine (linked_ok w2).mono ?_
  rintro e w3 ⟨rfl, hx3⟩
  have HRS3 := hide (hx3.reads HRS.out (Nat.le_refl _))
  have HX3 := hide (HX2.out.trans hx3)
  have HG3 := hide (HG2.out.ext hx3)
  clear hx3 HRS HX2 HG2
  go_wp2_with fail
  go_loopw [7, 33] (Ap1Rel w3 ps) (fun _ i _ => ps.length - (intOf i).toNat)
  case atStart => exact ⟨0, Nat.zero_le _, rfl, rfl, Ext.refl _⟩
  case round =>
    obtain ⟨k, hk, rfl, rfl, hx⟩ := hrel
    have HX := hide hx
    clear hx
    by_cases hlt : k < ps.length
    · obtain ⟨b, off, o, v, hi, rfl, hpi, hrd, hck, hsm, q0, q1, q2, q3⟩ := (HG3.out.ext HX.out).at_ k hlt
      obtain ⟨bs, os, rfl, -⟩ := HRS3.out.addr (by omega) (by omega)
      have hsl : k < (spotsL ps).length := by simp [spotsL]; omega
      have s0 := HX.out.cell (Reads.elem spC_len HRS3.out k hsl (by omega) 0 (by omega) rfl)
      rw [Nat.add_zero, show (spotsL ps)[k] = (cAt ps k, dAt ps k) by simp [spotsL]] at s0
      have hl1 : o.code.length = v.n1 := hrd.l1
      have HNX := hide (show (cAt ps (k + 1) : Int) = (cAt ps k : Int) + 4 * (v.n1 : Int) by have h1 := cAt_next ps k hi; rw [hpi] at h1; dsimp only at h1; omega)
      have hcl : cAt ps k ≤ 16 + cLen ps := cAt_le ps k
      have hn1 : v.n1 ≤ 128 := by have := hck.code; omega
      dsimp only at s0
      generalize cAt ps k = ca at *
      obtain ⟨B1, m1, d1, B2, m2, d2, B3, m3, d3, B4, m4, d4⟩ := v
      dsimp only at q0 q1 q2 q3 hn1 HNX
      clear hrd hck hsm hpi q1 q2 q3
      go_wp2_with fail
      go_roundw
      case rel => exact ⟨k + 1, by omega, by go_num, by rw [HNX.out], HX.out⟩
      case measure => simp [intOf]; omega
    · obtain rfl : k = ps.length := by omega
      have HCE := hide (show cAt ps ps.length = dE ps 0 from cAt_all ps)
      rw [HCE.out]
      go_wp2_with fail
      go_loopw [7, 55] (Ap2Rel w3 ps) (fun _ i _ => ps.length - (intOf i).toNat)
      case atStart => exact ⟨0, Nat.zero_le _, rfl, rfl, HX.out⟩
      case round =>
        obtain ⟨k, hk, rfl, rfl, hx⟩ := hrel
        have HX2 := hide hx
        clear hx HX
        have hde := dE_le ps k hk
        have hda := dAt_le ps k
        by_cases hlt : k < ps.length
        · obtain ⟨b, off, o, v, hi, rfl, hpi, hrd, hck, hsm, q0, q1, q2, q3⟩ := (HG3.out.ext HX2.out).at_ k hlt
          obtain ⟨bs, os, rfl, -⟩ := HRS3.out.addr (by omega) (by omega)
          have hsl : k < (spotsL ps).length := by simp [spotsL]; omega
          have s1 := HX2.out.cell (Reads.elem spC_len HRS3.out k hsl (by omega) 1 (by omega) rfl)
          rw [show (spotsL ps)[k] = (cAt ps k, dAt ps k) by simp [spotsL]] at s1
          have hl2 : o.data.length = v.n2 := hrd.l2
          have HNX := hide (show (dE ps (k + 1) : Int) = (dAt ps k : Int) + (v.n2 : Int) by have h1 := dE_succ ps k hi; rw [hpi] at h1; dsimp only at h1; omega)
          have hm4 := dAt_mod4 ps k
          have HZ := hide (show k = 0 → dAt ps k / 16 ≠ (dE ps k - 1) / 16 from fun h0 => by subst h0; exact dAt_zero ps)
          have hn2 : v.n2 ≤ 256 := by have := hck.data; omega
          have hdp := dE_pos ps k
          dsimp only at s1
          generalize dAt ps k = da at *
          generalize dE ps k = de at *
          obtain ⟨B1, m1, d1, B2, m2, d2, B3, m3, d3, B4, m4, d4⟩ := v
          dsimp only at q0 q1 q2 q3 hn2 HNX
          clear hrd hck hsm hpi q0 q2 q3
          obtain ⟨x, hx⟩ : ∃ x, da / 16 = x := ⟨_, rfl⟩
          obtain ⟨y, hy⟩ : ∃ y, (de - 1) / 16 = y := ⟨_, rfl⟩
          rw [hx, hy] at HZ
          have hq1 : (da : Int).tdiv 16 = (x : Int) := by rw [Int.tdiv_eq_ediv_of_nonneg (by omega)]; omega
          have hq2 : ((de : Int) - 1).tdiv 16 = (y : Int) := by rw [Int.tdiv_eq_ediv_of_nonneg (by omega)]; omega
          have hr1 : (da : Int).tmod 4 = 0 := by rw [Int.tmod_eq_emod_of_nonneg (by omega)]; omega
          have hr2 : (da : Int) % 4 = 0 := by omega
          have tlt : decide (da < de) = false := decide_eq_false (Nat.not_lt.2 hde)
          have hwx : wrap64 (x : Int) = (x : Int) := wrap64_small x (by omega)
          have hwy : wrap64 (y : Int) = (y : Int) := wrap64_small y (by omega)
          by_cases hxy : x = y
          case' pos =>
            have hk0 : k ≠ 0 := fun h0 => HZ.out h0 hxy
            have tk : ((k : Int) == 0) = false := by simpa using hk0
            have tk2 : (k == 0) = false := by simpa using hk0
            have tk3 : decide (k = 0) = false := by simpa using hk0
            subst hxy
          case' neg =>
            have txy : ((x : Int) == (y : Int)) = false := beq_eq_false_iff_ne.2 (fun e => hxy (Int.ofNat.inj e))
            have txy2 : (x == y) = false := by simpa using hxy
          all_goals
            clear hx hy HZ
            go_upto_region 18 with fail
            go_quiet (fail)
            have HX3' := hide (HX2.out.trans ((Ext.refl wr).drewN nq))
            go_wp2_with fail
            go_roundw
            case rel => exact ⟨k + 1, by omega, by go_num, by rw [HNX.out], HX3'.out⟩
            case measure => simp [intOf]; omega
        · obtain rfl : k = ps.length := by omega
          have HXF := hide (HX3.out.trans HX2.out)
          have hde2 : dE ps ps.length ≤ endL ps := by rw [← dAt_all]; exact hde
          generalize dE ps ps.length = de at *
          generalize endL ps = en at *
          have hd : decide ((en : Int) ≤ 1024) = true := by simp; omega
          go_wp2_with fail
          go_ret
          exact ⟨rfl, HXF.out⟩
end Go.Proofs.YtljlniehbenefaaDoor
