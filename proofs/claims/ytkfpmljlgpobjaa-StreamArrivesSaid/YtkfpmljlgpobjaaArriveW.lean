/- The walk of StreamArrives. -/
import Derived.Test.YtkfpmljlgpobjaaTurnsD
import Derived.Test.YtkfpmljlgpobjaaArriveP
import Derived.Test.YtkfpmljlgpobjaaResetW
namespace Go.Proofs.Ytkfpmljlgpobjaa
open Go.RowKit
set_option linter.unusedVariables false

theorem begin_kept (a b : Int) : Kept (sayP (beginP a b)) 1000 1000 1000 := by
  have h : Kept (beginP a b) 0 0 0 := ⟨begin_sound a b, fun i hi => by simp [beginP]⟩
  have h2 := kept_say h
  exact ⟨h2.s.mono (by omega) (by omega), fun i hi => Nat.le_trans (h2.put i hi) (by omega)⟩
theorem PairAt.strs {w0 w : World} {gp : Nat} {b : Nat → Nat} {d : PairD} (h : PairAt w0 gp b d w) : w.cell? ⟨gp, 4, none⟩ = some (.string (str (d.p 0))) ∧ w.cell? ⟨gp, 5, none⟩ = some (.string (str (d.p 1))) ∧ w.cell? ⟨gp, 6, none⟩ = some (.string (str (d.g 0))) ∧ w.cell? ⟨gp, 7, none⟩ = some (.string (str (d.g 1))) := by
  obtain ⟨L, h, hb⟩ := h
  exact ⟨h.box.cell 4, h.box.cell 5, h.box.cell 6, h.box.cell 7⟩
set_option maxHeartbeats 4000000 in
set_option maxRecDepth 100000 in
theorem arrives_walk (hT : TurnsSpec) (a b : Int) (ha : U32 a) (hb : U32 b) (A : Option Addr) (n c : Nat) (ls : List (TurnD × Value)) (w : World) (ht : TurnsIn w A n ls) :
    Calls Try.prog 7 #[.int .u32 a, .int .u32 b, .slice A n c] w fun r w' => r = .returned (.bool true) ∧ Ext w w' := by
  have HA := hide ha
  have HB := hide hb
  have HT := hide ht
  have HSP := hide hT
  have HFR := hide (fun y => arrives ha hb (ls.map (·.1)) y)
  have HK0 := hide (begin_kept a b)
  clear ha hb ht hT
  go_enter Try.func7, Try.ntmps7
  go_wp2_with fail
  refine (begin_any w a b HA.out HB.out).mono ?_
  rintro r w1 ⟨gp, bb, rfl, hp1⟩
  have HP1 := hide hp1
  clear hp1
  go_wp2_with fail
  refine (pair_say w gp bb (beginP a b) w1 HP1.out (fun i hi => by simp [beginP])).mono ?_
  rintro r w2 ⟨rfl, hp2⟩
  have HP2 := hide hp2
  clear hp2 HP1
  generalize sayP (beginP a b) = d0 at *
  go_wp2_with fail
  refine (HSP.out w gp bb d0 w2 A n c ls HP2.out HK0.out HT.out).mono ?_
  rintro r w3 ⟨rfl, hp3, hk3⟩
  have HP3 := hide hp3
  have HK3 := hide hk3
  clear hp3 hk3 HP2 HSP HK0
  generalize (turnsP d0 (ls.map (·.1))).1 = d3 at *
  obtain ⟨L, hL, hLb⟩ := HP3.out
  have hbx := hL.box
  have y2 : w3.cell? ⟨gp, 2, none⟩ = some (L.vy 0) := hbx.cell 2
  have y3 : w3.cell? ⟨gp, 3, none⟩ = some (L.vy 1) := hbx.cell 3
  have f2 := hbx.frozen 2
  have f3 := hbx.frozen 3
  clear hbx
  have HL := hide hL
  have HLB := hide hLb
  clear hL hLb
  go_upto_region 6 with fail
  have HP4 := hide (show PairAt w gp bb { d3 with y := upd (upd d3.y 0 []) 1 [] } ((w3.setCell ⟨gp, 2, none⟩ (.slice none 0 0)).setCell ⟨gp, 3, none⟩ (.slice none 0 0)) from by
    obtain ⟨L1, h1, h2, -⟩ := HL.out.emptied (i := 0) (by omega)
    obtain ⟨L2, h3, h4, -⟩ := h1.emptied (i := 1) (by omega)
    exact ⟨L2, h3, by rw [h4, h2]; exact HLB.out⟩)
  have HK4 := hide (show Sound { d3 with y := upd (upd d3.y 0 []) 1 [] } 0 10000 from ⟨HK3.out.s.live, fun i hi => by rcases lt2 hi with rfl | rfl <;> exact Nat.le_refl 0, HK3.out.s.got⟩)
  have HFR4 := hide (HFR.out (upd (upd d3.y 0 []) 1 []) rfl rfl)
  clear HL HLB y2 y3 f2 f3 HFR HP3 HK3
  generalize ((w3.setCell ⟨gp, 2, none⟩ (.slice none 0 0)).setCell ⟨gp, 3, none⟩ (.slice none 0 0)) = w4 at *
  generalize ({ d3 with y := upd (upd d3.y 0 []) 1 [] } : PairD) = d4 at *
  go_wp2_with fail
  refine (pair_rounds w gp bb d4 w4 40 HP4.out 0 10000 HK4.out (by omega) (by omega) (by omega)).mono ?_
  rintro r w5 ⟨rfl, hp5⟩
  have HP5 := hide hp5
  obtain ⟨s0, s1, s2, s3⟩ := HFR4.out
  have HE0 := hide s0
  have HE1 := hide s1
  have HG1 := hide s2
  have HG0 := hide s3
  obtain ⟨p0, p1⟩ := hp5.ptrs
  clear hp5 HP4 HK4 HFR4 s0 s1 s2 s3
  generalize roundsP 40 d4 = d5 at *
  go_wp2_with fail
  refine (HP5.out.tell (i := 0) (by omega)).mono ?_
  rintro r w6 ⟨rfl, hp6⟩
  rw [HE0.out]
  have HP6 := hide hp6
  obtain ⟨q0, q1⟩ := hp6.ptrs
  clear hp6 HP5 p0 p1
  go_wp2_with fail
  refine (HP6.out.tell (i := 1) (by omega)).mono ?_
  rintro r w7 ⟨rfl, hp7⟩
  rw [HE1.out]
  obtain ⟨s4, s5, s6, s7⟩ := hp7.strs
  rw [HG1.out] at s4
  rw [HG0.out] at s5
  have HXW := hide hp7.ext
  clear hp7 HP6 q0 q1 HE0 HE1 HG0 HG1
  generalize str (d5.g 0) = T0 at *
  generalize str (d5.g 1) = T1 at *
  generalize ((d5.e 0).out.length : Int) = z1 at *
  generalize ((d5.e 0).inn.length : Int) = z2 at *
  generalize ((d5.e 1).out.length : Int) = z3 at *
  generalize ((d5.e 1).inn.length : Int) = z4 at *
  go_upto_region 9 with fail
  go_quiet (fail)
  go_wp2_with fail
  go_ret
  exact ⟨rfl, HXW.out.drewN _⟩
end Go.Proofs.Ytkfpmljlgpobjaa
