/- Check of an image, at any image. -/
import Derived.Test.YtljlniehbenefaaDoorBdLink
import Derived.Deep.CutRange
namespace Go.Proofs.YtljlniehbenefaaDoor
open Go.RowKit
set_option linter.unusedVariables false

def mayB (r : Int) : Bool := decide (1 ≤ r ∧ r ≤ 5)
theorem may_any (r : Int) (w : World) : Calls Tryd.prog 35 #[.int .i64 r] w fun e w' => e = .returned (.bool (mayB r)) ∧ w' = w := by
  have hc : r < 1 ∨ 7 < r ∨ r = 1 ∨ r = 2 ∨ r = 3 ∨ r = 4 ∨ r = 5 ∨ r = 6 ∨ r = 7 := by omega
  rcases hc with h | h | rfl | rfl | rfl | rfl | rfl | rfl | rfl
  · have hm : mayB r = false := by simp [mayB]; omega
    rw [hm]
    have t : decide (1 ≤ r) = false := by simp; omega
    go_enter Tryd.func35, Tryd.ntmps35
    go_wp2
    go_ret
    exact ⟨rfl, rfl⟩
  · have hm : mayB r = false := by simp [mayB]; omega
    rw [hm]
    have t0 : decide (1 ≤ r) = true := by simp; omega
    have t : decide (r ≤ 7) = false := by simp; omega
    go_enter Tryd.func35, Tryd.ntmps35
    go_wp2
    go_ret
    exact ⟨rfl, rfl⟩
  all_goals
    go_enter Tryd.func35, Tryd.ntmps35
    go_wp2
    go_ret
    exact ⟨rfl, rfl⟩

/-- Is the page at place k, behind 'prev', none that may be? -/
def badP (k : Nat) (prev : Int) (p : PgD) : Bool := decide (p.page < 0 ∨ 64 ≤ p.page ∨ (0 < k ∧ p.page ≤ prev) ∨ mayB p.rights = false ∨ 16 < p.m)
def prevOf (ps : List PgD) (k : Nat) : Int := ((ps[k - 1]?).map (·.page)).getD 0
def badAt (ps : List PgD) (k : Nat) (p : PgD) : Bool := badP k (prevOf ps k) p
def startP (en : Int) (p : PgD) : Bool := decide (en / 16 = p.page) && decide (4 ≤ p.rights)
def startsB (en : Int) (ps : List PgD) : Bool := ps.any (startP en)
def Fine (ps : List PgD) (k : Nat) : Prop := ∀ i (h : i < ps.length), i < k → badAt ps i ps[i] = false
/-- What Check answers. -/
def Chk (en : Int) (ps : List PgD) (e : Int) : Prop := (e = 0 ∧ ps.length ≤ 64 ∧ Fine ps ps.length ∧ en % 4 = 0 ∧ startsB en ps = true) ∨ (e ≠ 0 ∧ ¬ (ps.length ≤ 64 ∧ Fine ps ps.length ∧ en % 4 = 0 ∧ startsB en ps = true))
structure PgD.Num (p : PgD) : Prop where
  p1 : -9223372036854775808 ≤ p.page
  p2 : p.page ≤ 9223372036854775807
  r1 : -9223372036854775808 ≤ p.rights
  r2 : p.rights ≤ 9223372036854775807
  m1 : p.m ≤ 9223372036854775807
theorem and4 (r : Int) (h1 : 1 ≤ r) (h5 : r ≤ 5) : (bits .and .i64 r 4 != 0) = decide (4 ≤ r) := by
  have hc : r = 1 ∨ r = 2 ∨ r = 3 ∨ r = 4 ∨ r = 5 := by omega
  rcases hc with rfl | rfl | rfl | rfl | rfl <;> decide +kernel
theorem startsB_snoc (en : Int) (l : List PgD) (p : PgD) : startsB en (l ++ [p]) = (startsB en l || startP en p) := by simp [startsB]
theorem badP_may {k : Nat} {pv : Int} {p : PgD} (h : badP k pv p = false) : 1 ≤ p.rights ∧ p.rights ≤ 5 := by
  simp only [badP, decide_eq_false_iff_not, mayB] at h
  by_cases hm : 1 ≤ p.rights ∧ p.rights ≤ 5
  · exact hm
  · exact absurd (.inr (.inr (.inr (.inl (by simpa using hm))))) h
def LdRel (w : World) (ps : List PgD) (n : Nat) (en : Int) (im : Array Value) (s i : Value) (wr : World) : Prop :=
  ∃ k : Nat, k ≤ n ∧ i = .int .i64 k ∧ s = .bool (startsB en (ps.take k)) ∧ Fine ps k ∧ Blk wr w.heap.size 69 im ∧ Ext w wr
def LdPost (w : World) (en : Int) (ps : List PgD) (e : Ending) (w' : World) : Prop := ∃ z : Int, e = .returned (.int .i64 z) ∧ Chk en ps z ∧ Ext w w'

set_option maxHeartbeats 4000000 in
set_option maxRecDepth 100000 in
theorem ldcheck_any (ps : List PgD) (A : Option Addr) (n c B : Nat) (en : Int) (w : World) (hr : Reads w B 3 A n (pgsV ps)) (hB : B ≤ w.heap.size) (hp : ∀ p ∈ ps, p.Num) (hn : n ≤ maxLen) (e1 : 0 ≤ en) (e2 : en < 4294967296) :
    Calls Tryd.prog 22 #[.agg #[.int .u32 en, .slice A n c]] w (LdPost w en ps) := by
  have hl : ps.length = n := flat_len pgC_len (by omega) hr
  unfold maxLen at hn
  have HR := hide hr
  have HP := hide hp
  have HL := hide hl
  clear hr hp hl
  by_cases h64 : n ≤ 64
  · go_enter Tryd.func22, Tryd.ntmps22
    go_wp2_with fail
    go_loopw [3, 13] (LdRel w ps n en #[.int .u32 en, .slice A n c]) (fun _ i _ => n - (intOf i).toNat)
    case atStart => exact ⟨0, Nat.zero_le _, rfl, rfl, fun i _ h => absurd h (by omega), Blk.new _ _ _, by ((repeat (first | with_reducible exact Ext.refl _ | with_reducible assumption | with_reducible refine Ext.alloc ?_ _ | with_reducible refine Ext.drew ?_ | with_reducible refine Ext.drewN ?_ _ | with_reducible refine Ext.setCell ?_ (by first | exact Nat.le_refl _ | assumption | (simp; done) | omega) _ | with_reducible refine Ext.trans ?_ (by with_reducible assumption))); done)⟩
    case round =>
      obtain ⟨k, hk, rfl, rfl, hf, hb, hx⟩ := hrel
      have HF := hide hf
      have HB := hide hb
      have HX := hide hx
      clear hf hb hx
      by_cases hlt : k < n
      · obtain ⟨b, off, rfl, hbB⟩ := HR.out.addr (by omega) (by omega)
        have hkl : k < ps.length := by rw [HL.out]; exact hlt
        obtain ⟨q0, q1, q2⟩ := pg_cells (HX.out.reads HR.out hB) k hkl (by omega)
        obtain ⟨n1, n2, n3, n4, n5⟩ := HP.out ps[k] (List.getElem_mem hkl)
        have HT := hide (show ps.take (k + 1) = ps.take k ++ [ps[k]] from List.take_succ_eq_append_getElem hkl)
        have HFN := hide (show badAt ps k ps[k] = false → Fine ps (k + 1) from fun hb i hi hik => by
          by_cases e : i = k
          · subst e; exact hb
          · exact HF.out i hi (by omega))
        have HBF := hide (show badAt ps k ps[k] = true → ¬ Fine ps ps.length from fun hb hf => by rw [hf k hkl hkl] at hb; cases hb)
        have hq3 : 0 < k → wr.cell? ⟨b, off + (k - 1) * 3, none⟩ = some (.int .i64 (prevOf ps k)) := fun h0 => by
          have hk1 : k - 1 < ps.length := by omega
          have := (pg_cells (HX.out.reads HR.out hB) (k - 1) hk1 (by omega)).1
          rw [this, prevOf, List.getElem?_eq_getElem hk1]
          rfl
        have HQ3 := hide hq3
        clear hq3
        unfold badAt at HFN HBF
        generalize prevOf ps k = pv at HQ3 HFN HBF
        generalize ps[k] = p at *
        obtain ⟨pp, pr, pD, pm, pc, pds⟩ := p
        dsimp only at q0 q1 q2 n1 n2 n3 n4 n5
        go_upto_region 7 with fail
        have hbx : Blk (wr.alloc (.cells #[.int .i64 pp, .int .i64 pr, .slice pD pm pc] 88)) wr.heap.size 88 #[.int .i64 pp, .int .i64 pr, .slice pD pm pc] := Blk.new _ _ _
        have hxx : Ext wr (wr.alloc (.cells #[.int .i64 pp, .int .i64 pr, .slice pD pm pc] 88)) := by ((repeat (first | with_reducible exact Ext.refl _ | with_reducible assumption | with_reducible refine Ext.alloc ?_ _ | with_reducible refine Ext.drew ?_ | with_reducible refine Ext.drewN ?_ _ | with_reducible refine Ext.setCell ?_ (by first | exact Nat.le_refl _ | assumption | (simp; done) | omega) _ | with_reducible refine Ext.trans ?_ (by with_reducible assumption))); done)
        generalize wr.alloc (.cells #[.int .i64 pp, .int .i64 pr, .slice pD pm pc] 88) = W at hbx hxx ⊢
        have p0 : W.cell? ⟨wr.heap.size, 0, none⟩ = some (.int .i64 pp) := hbx.cell 0
        have p1 : W.cell? ⟨wr.heap.size, 1, none⟩ = some (.int .i64 pr) := hbx.cell 1
        have p2 : W.cell? ⟨wr.heap.size, 2, none⟩ = some (.slice pD pm pc) := hbx.cell 2
        have HB2 := hide (HB.out.ext hxx)
        have p3 : W.cell? ⟨w.heap.size, 1, none⟩ = some (.slice (some ⟨b, off, none⟩) n c) := HB2.out.cell 1
        have HQ4 := hide (show 0 < k → W.cell? ⟨b, off + (k - 1) * 3, none⟩ = some (.int .i64 pv) from fun h => hxx.cell (HQ3.out h))
        clear HQ3
        have HQ3 := HQ4
        clear HQ4 q0 q1 q2
        go_cut [13, 53] from 13 to 70 (fun s13 s53 wx => s13 = .int .i64 k ∧ s53 = .bool (badP k pv ⟨pp, pr, pD, pm, pc, pds⟩) ∧ Ext W wx)
        case first =>
          by_cases ha : pp < 0
          · have HBB := hide (show badP k pv ⟨pp, pr, pD, pm, pc, pds⟩ = true by simp only [badP, decide_eq_true_eq]; exact .inl ha)
            have ta : decide (pp < 0) = true := by simp; omega
            go_quiet ((go_at_call 35; exact Calls.quiet_of_same (may_any _ _)))
            go_wp2_with fail
            go_meet
            exact ⟨rfl, by rw [HBB.out], by ((repeat (first | with_reducible exact Ext.refl _ | with_reducible assumption | with_reducible refine Ext.alloc ?_ _ | with_reducible refine Ext.drew ?_ | with_reducible refine Ext.drewN ?_ _ | with_reducible refine Ext.setCell ?_ (by first | exact Nat.le_refl _ | assumption | (simp; done) | omega) _ | with_reducible refine Ext.trans ?_ (by with_reducible assumption))); done)⟩
          · have ta : decide (pp < 0) = false := by simp; omega
            by_cases hb : 64 ≤ pp
            · have HBB := hide (show badP k pv ⟨pp, pr, pD, pm, pc, pds⟩ = true by simp only [badP, decide_eq_true_eq]; exact .inr (.inl hb))
              have tb : decide (64 ≤ pp) = true := by simp; omega
              go_quiet ((go_at_call 35; exact Calls.quiet_of_same (may_any _ _)))
              go_wp2_with fail
              go_meet
              exact ⟨rfl, by rw [HBB.out], by ((repeat (first | with_reducible exact Ext.refl _ | with_reducible assumption | with_reducible refine Ext.alloc ?_ _ | with_reducible refine Ext.drew ?_ | with_reducible refine Ext.drewN ?_ _ | with_reducible refine Ext.setCell ?_ (by first | exact Nat.le_refl _ | assumption | (simp; done) | omega) _ | with_reducible refine Ext.trans ?_ (by with_reducible assumption))); done)⟩
            · have tb : decide (64 ≤ pp) = false := by simp; omega
              by_cases h0 : 0 < k
              · have q3 := HQ3.out h0
                have t0 : decide (0 < k) = true := by simp; omega
                by_cases hc : pp ≤ pv
                · have HBB := hide (show badP k pv ⟨pp, pr, pD, pm, pc, pds⟩ = true by simp only [badP, decide_eq_true_eq]; exact .inr (.inr (.inl ⟨h0, hc⟩)))
                  have tc : decide (pp ≤ pv) = true := by simp; omega
                  have i1 : (0 : Int) ≤ (k : Int) - 1 := by omega
                  have i2 : (k : Int) - 1 < (n : Int) := by omega
                  have i3 : IntKind.i64.wrap ((k : Int) - 1) = (k : Int) - 1 := IntWalk.i64_in _ (by omega)
                  have i4 : ((k : Int) - 1).toNat = k - 1 := by omega
                  go_quiet ((go_at_call 35; exact Calls.quiet_of_same (may_any _ _)))
                  go_wp2_with fail
                  go_meet
                  exact ⟨rfl, by rw [HBB.out], by ((repeat (first | with_reducible exact Ext.refl _ | with_reducible assumption | with_reducible refine Ext.alloc ?_ _ | with_reducible refine Ext.drew ?_ | with_reducible refine Ext.drewN ?_ _ | with_reducible refine Ext.setCell ?_ (by first | exact Nat.le_refl _ | assumption | (simp; done) | omega) _ | with_reducible refine Ext.trans ?_ (by with_reducible assumption))); done)⟩
                · have tc : decide (pp ≤ pv) = false := by simp; omega
                  cases hd : mayB pr with
                  | false =>
                    have HBB := hide (show badP k pv ⟨pp, pr, pD, pm, pc, pds⟩ = true by simp only [badP, decide_eq_true_eq]; exact .inr (.inr (.inr (.inl hd))))
                    have i1 : (0 : Int) ≤ (k : Int) - 1 := by omega
                    have i2 : (k : Int) - 1 < (n : Int) := by omega
                    have i3 : IntKind.i64.wrap ((k : Int) - 1) = (k : Int) - 1 := IntWalk.i64_in _ (by omega)
                    have i4 : ((k : Int) - 1).toNat = k - 1 := by omega
                    go_quiet ((go_at_call 35; exact Calls.quiet_of_same (may_any _ _)))
                    go_wp2_with fail
                    go_meet
                    exact ⟨rfl, by rw [HBB.out], by ((repeat (first | with_reducible exact Ext.refl _ | with_reducible assumption | with_reducible refine Ext.alloc ?_ _ | with_reducible refine Ext.drew ?_ | with_reducible refine Ext.drewN ?_ _ | with_reducible refine Ext.setCell ?_ (by first | exact Nat.le_refl _ | assumption | (simp; done) | omega) _ | with_reducible refine Ext.trans ?_ (by with_reducible assumption))); done)⟩
                  | true =>
                    by_cases he : 16 < pm
                    · have HBB := hide (show badP k pv ⟨pp, pr, pD, pm, pc, pds⟩ = true by simp only [badP, decide_eq_true_eq]; exact .inr (.inr (.inr (.inr he))))
                      have te : decide (16 < pm) = true := by simp; omega
                      have te' : decide ((16 : Int) < (pm : Int)) = true := by simp; omega
                      have i1 : (0 : Int) ≤ (k : Int) - 1 := by omega
                      have i2 : (k : Int) - 1 < (n : Int) := by omega
                      have i3 : IntKind.i64.wrap ((k : Int) - 1) = (k : Int) - 1 := IntWalk.i64_in _ (by omega)
                      have i4 : ((k : Int) - 1).toNat = k - 1 := by omega
                      go_quiet ((go_at_call 35; exact Calls.quiet_of_same (may_any _ _)))
                      go_wp2_with fail
                      go_meet
                      exact ⟨rfl, by rw [HBB.out], by ((repeat (first | with_reducible exact Ext.refl _ | with_reducible assumption | with_reducible refine Ext.alloc ?_ _ | with_reducible refine Ext.drew ?_ | with_reducible refine Ext.drewN ?_ _ | with_reducible refine Ext.setCell ?_ (by first | exact Nat.le_refl _ | assumption | (simp; done) | omega) _ | with_reducible refine Ext.trans ?_ (by with_reducible assumption))); done)⟩
                    · have HBB := hide (show badP k pv ⟨pp, pr, pD, pm, pc, pds⟩ = false by simp only [badP, decide_eq_false_iff_not, hd]; simp; omega)
                      have te : decide (16 < pm) = false := by simp; omega
                      have te' : decide ((16 : Int) < (pm : Int)) = false := by simp; omega
                      have i1 : (0 : Int) ≤ (k : Int) - 1 := by omega
                      have i2 : (k : Int) - 1 < (n : Int) := by omega
                      have i3 : IntKind.i64.wrap ((k : Int) - 1) = (k : Int) - 1 := IntWalk.i64_in _ (by omega)
                      have i4 : ((k : Int) - 1).toNat = k - 1 := by omega
                      go_quiet ((go_at_call 35; exact Calls.quiet_of_same (may_any _ _)))
                      go_wp2_with fail
                      go_meet
                      exact ⟨rfl, by rw [HBB.out], by ((repeat (first | with_reducible exact Ext.refl _ | with_reducible assumption | with_reducible refine Ext.alloc ?_ _ | with_reducible refine Ext.drew ?_ | with_reducible refine Ext.drewN ?_ _ | with_reducible refine Ext.setCell ?_ (by first | exact Nat.le_refl _ | assumption | (simp; done) | omega) _ | with_reducible refine Ext.trans ?_ (by with_reducible assumption))); done)⟩
              · obtain rfl : k = 0 := by omega
                cases hd : mayB pr with
                | false =>
                  have HBB := hide (show badP 0 pv ⟨pp, pr, pD, pm, pc, pds⟩ = true by simp only [badP, decide_eq_true_eq]; exact .inr (.inr (.inr (.inl hd))))
                  go_quiet ((go_at_call 35; exact Calls.quiet_of_same (may_any _ _)))
                  go_wp2_with fail
                  go_meet
                  exact ⟨rfl, by rw [HBB.out], by ((repeat (first | with_reducible exact Ext.refl _ | with_reducible assumption | with_reducible refine Ext.alloc ?_ _ | with_reducible refine Ext.drew ?_ | with_reducible refine Ext.drewN ?_ _ | with_reducible refine Ext.setCell ?_ (by first | exact Nat.le_refl _ | assumption | (simp; done) | omega) _ | with_reducible refine Ext.trans ?_ (by with_reducible assumption))); done)⟩
                | true =>
                  by_cases he : 16 < pm
                  · have HBB := hide (show badP 0 pv ⟨pp, pr, pD, pm, pc, pds⟩ = true by simp only [badP, decide_eq_true_eq]; exact .inr (.inr (.inr (.inr he))))
                    have te : decide (16 < pm) = true := by simp; omega
                    have te' : decide ((16 : Int) < (pm : Int)) = true := by simp; omega
                    go_quiet ((go_at_call 35; exact Calls.quiet_of_same (may_any _ _)))
                    go_wp2_with fail
                    go_meet
                    exact ⟨rfl, by rw [HBB.out], by ((repeat (first | with_reducible exact Ext.refl _ | with_reducible assumption | with_reducible refine Ext.alloc ?_ _ | with_reducible refine Ext.drew ?_ | with_reducible refine Ext.drewN ?_ _ | with_reducible refine Ext.setCell ?_ (by first | exact Nat.le_refl _ | assumption | (simp; done) | omega) _ | with_reducible refine Ext.trans ?_ (by with_reducible assumption))); done)⟩
                  · have HBB := hide (show badP 0 pv ⟨pp, pr, pD, pm, pc, pds⟩ = false by simp only [badP, decide_eq_false_iff_not, hd]; simp; omega)
                    have te : decide (16 < pm) = false := by simp; omega
                    have te' : decide ((16 : Int) < (pm : Int)) = false := by simp; omega
                    go_quiet ((go_at_call 35; exact Calls.quiet_of_same (may_any _ _)))
                    go_wp2_with fail
                    go_meet
                    exact ⟨rfl, by rw [HBB.out], by ((repeat (first | with_reducible exact Ext.refl _ | with_reducible assumption | with_reducible refine Ext.alloc ?_ _ | with_reducible refine Ext.drew ?_ | with_reducible refine Ext.drewN ?_ _ | with_reducible refine Ext.setCell ?_ (by first | exact Nat.le_refl _ | assumption | (simp; done) | omega) _ | with_reducible refine Ext.trans ?_ (by with_reducible assumption))); done)⟩
        case rest =>
          obtain ⟨rfl, rfl, hxc⟩ := hcut
          have HXC := hide (HX.out.trans (hxx.trans hxc))
          have HBC := hide (HB2.out.ext hxc)
          have r0 : wc.cell? ⟨w.heap.size, 0, none⟩ = some (.int .u32 en) := HBC.out.cell 0
          have hbw := hbx.ext hxc
          have r1 : wc.cell? ⟨wr.heap.size, 0, none⟩ = some (.int .i64 pp) := hbw.cell 0
          have r2 : wc.cell? ⟨wr.heap.size, 1, none⟩ = some (.int .i64 pr) := hbw.cell 1
          have HTS := hide (show startsB en (ps.take (k + 1)) = (startsB en (ps.take k) || startP en ⟨pp, pr, pD, pm, pc, pds⟩) by rw [HT.out, startsB_snoc])
          clear hbw hbx hxx hxc p0 p1 p2 p3 HB2 HQ3 HT
          cases hbad : badP k pv ⟨pp, pr, pD, pm, pc, pds⟩ with
          | true =>
            have HNF := hide (HBF.out hbad)
            clear hbad HBF HFN
            go_wp2_with fail
            go_ret
            exact ⟨3, rfl, .inr ⟨by omega, fun h => HNF.out h.2.1⟩, HXC.out⟩
          | false =>
            have HNF := hide (HFN.out hbad)
            obtain ⟨b1, b2⟩ : 1 ≤ pr ∧ pr ≤ 5 := badP_may hbad
            have t9 := and4 pr b1 b2
            clear hbad HBF HFN
            generalize startsB en (ps.take k) = sb at HTS ⊢
            cases sb with
            | true =>
              clear t9
              go_wp2_with fail
              go_roundw
              case rel => exact ⟨k + 1, by omega, by go_num, by rw [HTS.out]; rfl, HNF.out, HBC.out, HXC.out⟩
              case measure => simp [intOf]; omega
            | false =>
              by_cases h16 : en / 16 = pp
              · have t16 : (en / 16 == pp) = true := by simpa using h16
                by_cases h4 : 4 ≤ pr
                · rw [show decide (4 ≤ pr) = true by simpa using h4] at t9
                  have HV := hide (show startP en ⟨pp, pr, pD, pm, pc, pds⟩ = true by simp [startP, h16, h4])
                  clear h16
                  go_wp2_with fail
                  go_roundw
                  case rel => exact ⟨k + 1, by omega, by go_num, by rw [HTS.out, HV.out]; rfl, HNF.out, HBC.out, HXC.out⟩
                  case measure => simp [intOf]; omega
                · rw [show decide (4 ≤ pr) = false by simpa using h4] at t9
                  have HV := hide (show startP en ⟨pp, pr, pD, pm, pc, pds⟩ = false by simp [startP, h4])
                  clear h16
                  go_wp2_with fail
                  go_roundw
                  case rel => exact ⟨k + 1, by omega, by go_num, by rw [HTS.out, HV.out]; rfl, HNF.out, HBC.out, HXC.out⟩
                  case measure => simp [intOf]; omega
              · have t16 : (en / 16 == pp) = false := by simpa using h16
                have HV := hide (show startP en ⟨pp, pr, pD, pm, pc, pds⟩ = false by simp [startP, h16])
                clear t9 h16
                go_wp2_with fail
                go_roundw
                case rel => exact ⟨k + 1, by omega, by go_num, by rw [HTS.out, HV.out]; rfl, HNF.out, HBC.out, HXC.out⟩
                case measure => simp [intOf]; omega
      · obtain rfl : k = n := by omega
        have r0 : wr.cell? ⟨w.heap.size, 0, none⟩ = some (.int .u32 en) := HB.out.cell 0
        rw [List.take_of_length_le (by rw [HL.out]; exact Nat.le_refl _)]
        have HFF := HF.out
        rw [← HL.out] at HFF
        have HF2 := hide HFF
        have HL2 := hide (show ps.length ≤ 64 by rw [HL.out]; exact h64)
        clear HFF
        cases hs : startsB en ps with
        | true =>
          have HSS := hide hs
          clear hs
          by_cases h4 : en % 4 = 0
          · have t4 : (en % 4 != 0) = false := by simpa using h4
            have H4 := hide h4
            clear h4
            go_wp2_with fail
            go_ret
            exact ⟨0, rfl, .inl ⟨rfl, HL2.out, HF2.out, H4.out, HSS.out⟩, HX.out⟩
          · have t4 : (en % 4 != 0) = true := by simpa using h4
            go_wp2_with fail
            go_ret
            exact ⟨3, rfl, .inr ⟨by omega, fun h => h4 h.2.2.1⟩, HX.out⟩
        | false =>
          have HSS := hide hs
          clear hs
          by_cases h4 : en % 4 = 0
          · have t4 : (en % 4 != 0) = false := by simpa using h4
            have H4 := hide h4
            clear h4
            go_wp2_with fail
            go_ret
            exact ⟨3, rfl, .inr ⟨by omega, fun h => by have := h.2.2.2; rw [HSS.out] at this; cases this⟩, HX.out⟩
          · have t4 : (en % 4 != 0) = true := by simpa using h4
            go_wp2_with fail
            go_ret
            exact ⟨3, rfl, .inr ⟨by omega, fun h => h4 h.2.2.1⟩, HX.out⟩
  · have t : ¬ (n : Int) ≤ 64 := by omega
    go_enter Tryd.func22, Tryd.ntmps22
    go_wp2_with fail
    go_ret
    exact ⟨2, rfl, .inr ⟨by omega, fun h => by have := h.1; rw [HL.out] at this; omega⟩, by ((repeat (first | with_reducible exact Ext.refl _ | with_reducible assumption | with_reducible refine Ext.alloc ?_ _ | with_reducible refine Ext.drew ?_ | with_reducible refine Ext.drewN ?_ _ | with_reducible refine Ext.setCell ?_ (by first | exact Nat.le_refl _ | assumption | (simp; done) | omega) _ | with_reducible refine Ext.trans ?_ (by with_reducible assumption))); done)⟩
end Go.Proofs.YtljlniehbenefaaDoor
