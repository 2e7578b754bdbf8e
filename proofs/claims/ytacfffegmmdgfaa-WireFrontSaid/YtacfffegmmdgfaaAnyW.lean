/- The walk of WireAnywhere. -/
import Derived.Test.YtacfffegmmdgfaaTellW
import Derived.BigQuiet
namespace Go.Proofs.Ytacfffegmmdgfaa
open Go.RowKit
set_option linter.unusedVariables false

theorem RawIn.ext {w w' : World} {A : Option Addr} {n : Nat} {ls : List (DeedD × Value)} (h : RawIn w A n ls) (hx : Ext w w') : RawIn w' A n ls :=
  ⟨(hx.reads h.row (Nat.le_refl _)).raise hx.size, fun x hxm => by
    obtain ⟨h1, h2, h3, A', k, c, e, hk, hc, hr⟩ := h.each x hxm
    exact ⟨h1, h2, h3, A', k, c, e, hk, hc, (hx.reads hr (Nat.le_refl _)).raise hx.size⟩, h.len⟩
/-- Two tellings that are the same: what lies in the two blocks. -/
def toldC (A0 A1 A2 A3 : Option Addr) (k0 k1 k2 k3 : Nat) (p0 g0 p1 g1 : List UInt8) (f0 f1 : Bool) (s0 s1 : Int) : Array Value :=
  #[.slice A0 p0.length k0, .slice A1 g0.length k1, .bool f0, .int .i64 s0, .slice A2 p1.length k2, .slice A3 g1.length k3, .bool f1, .int .i64 s1]
def AnyRel (w5 : World) (v : Value) (wr : World) : Prop := (v = .int .i64 0 ∨ v = .int .i64 1 ∨ v = .int .i64 2) ∧ Ext w5 wr
set_option maxHeartbeats 8000000 in
set_option maxRecDepth 100000 in
theorem anywhere_walk (a b c d : Int) (ha : U32 a) (hb : U32 b) (hc : U32 c) (hd : U32 d) (A : Option Addr) (n k : Nat) (ls : List (DeedD × Value)) (w : World) (h : RawIn w A n ls) :
    Calls Try.prog 3 #[.int .u32 a, .int .u32 b, .int .u32 c, .int .u32 d, .slice A n k] w fun r w' => r = .returned (.bool true) ∧ Ext w w' := by
  have HA := hide ha
  have HB := hide hb
  have HC := hide hc
  have HD := hide hd
  have HR := hide h
  have HANY := hide (anywhere a b c d ha hb hc hd (deedsD (ls.map (·.1))))
  clear ha hb hc hd h
  go_enter Try.func3, Try.ntmps3
  go_wp2_with fail
  refine (deeds_any w A n k ls HR.out).mono ?_
  rintro r w1 ⟨A1, m1, c1, rfl, hm1, hmade1⟩
  obtain ⟨ls1, e1, hd1⟩ := made_in hmade1 (Ext.refl w1)
  have HX1 := hide hmade1.choose_spec.2.2.2
  have HD1 := hide hd1
  have HE1 := hide e1
  have HM1 := hide hm1
  clear hmade1 hd1 e1 hm1
  go_wp2_with fail
  refine (run_any w1 a b HA.out HB.out A1 m1 c1 _ ls1 HD1.out (by have := HM1.out; omega)).mono ?_
  rintro r w2 ⟨P0, G0, P1, G1, rfl, hx2, hp0, hg0, hp1, hg1⟩
  rw [HE1.out] at hp0 hg0 hp1 hg1 ⊢
  obtain ⟨A0, k0, v0, -⟩ := own_form hp0
  obtain ⟨A2, k2, v2, -⟩ := own_form hg0
  obtain ⟨A3, k3, v3, -⟩ := own_form hp1
  obtain ⟨A4, k4, v4, -⟩ := own_form hg1
  rw [v0] at hp0 ⊢
  rw [v2] at hg0 ⊢
  rw [v3] at hp1 ⊢
  rw [v4] at hg1 ⊢
  have R0 := hide (Reads.of_own hp0)
  have R1 := hide (Reads.of_own hg0)
  have R2 := hide (Reads.of_own hp1)
  have R3 := hide (Reads.of_own hg1)
  have HX2 := hide (HX1.out.trans hx2)
  obtain ⟨Q0, T0, S0, F0⟩ := HANY.out 0 (by omega)
  obtain ⟨Q1, T1, S1, F1⟩ := HANY.out 1 (by omega)
  have HQ := hide (And.intro (And.intro Q0 (And.intro T0 (And.intro S0 F0))) (And.intro Q1 (And.intro T1 (And.intro S1 F1))))
  clear v0 v2 v3 v4 hp0 hg0 hp1 hg1 hx2 HX1 HD1 HE1 HM1 HANY Q0 T0 S0 F0 Q1 T1 S1 F1
  generalize (runL a b (deedsD (ls.map (·.1)))).p 0 = p0 at *
  generalize (runL a b (deedsD (ls.map (·.1)))).g 0 = g0 at *
  generalize (runL a b (deedsD (ls.map (·.1)))).p 1 = p1 at *
  generalize (runL a b (deedsD (ls.map (·.1)))).g 1 = g1 at *
  generalize ((runL a b (deedsD (ls.map (·.1)))).e 0).st = s0 at *
  generalize ((runL a b (deedsD (ls.map (·.1)))).e 1).st = s1 at *
  generalize ((runL a b (deedsD (ls.map (·.1)))).e 0).fin = f0 at *
  generalize ((runL a b (deedsD (ls.map (·.1)))).e 1).fin = f1 at *
  go_wp2_with fail
  have HX3 := hide (HX2.out.alloc (.cells (toldC A0 A2 A3 A4 k0 k2 k3 k4 p0 g0 p1 g1 f0 f1 s0 s1) 27))
  have HB3 := hide (Blk.new w2 27 (toldC A0 A2 A3 A4 k0 k2 k3 k4 p0 g0 p1 g1 f0 f1 s0 s1))
  have HY3 := hide ((Ext.refl w2).alloc (.cells (toldC A0 A2 A3 A4 k0 k2 k3 k4 p0 g0 p1 g1 f0 f1 s0 s1) 27))
  unfold toldC at HX3 HB3 HY3
  generalize w2.alloc (.cells #[.slice A0 p0.length k0, .slice A2 g0.length k2, .bool f0, .int .i64 s0, .slice A3 p1.length k3, .slice A4 g1.length k4, .bool f1, .int .i64 s1] 27) = w3 at *
  obtain ⟨gx, hgx⟩ : ∃ x, w2.heap.size = x := ⟨_, rfl⟩
  rw [hgx] at HB3 ⊢
  clear hgx
  refine (deeds_any w3 A n k ls (HR.out.ext HX3.out)).mono ?_
  rintro r w4 ⟨A5, m5, c5, rfl, hm5, hmade5⟩
  obtain ⟨ls5, e5, hd5⟩ := made_in hmade5 (Ext.refl w4)
  have HX4 := hide hmade5.choose_spec.2.2.2
  have HD5 := hide hd5
  have HE5 := hide e5
  have HM5 := hide hm5
  clear hmade5 hd5 e5 hm5
  go_wp2_with fail
  refine (run_any w4 c d HC.out HD.out A5 m5 c5 _ ls5 HD5.out (by have := HM5.out; omega)).mono ?_
  rintro r w5 ⟨P0, G0, P1, G1, rfl, hx5, hp0, hg0, hp1, hg1⟩
  rw [HE5.out] at hp0 hg0 hp1 hg1 ⊢
  rw [HQ.out.1.1] at hp0
  rw [HQ.out.1.2.1] at hg0
  rw [HQ.out.2.1] at hp1
  rw [HQ.out.2.2.1] at hg1
  rw [HQ.out.1.2.2.1, HQ.out.1.2.2.2, HQ.out.2.2.2.1, HQ.out.2.2.2.2]
  obtain ⟨B0, l0, v0, -⟩ := own_form hp0
  obtain ⟨B2, l2, v2, -⟩ := own_form hg0
  obtain ⟨B3, l3, v3, -⟩ := own_form hp1
  obtain ⟨B4, l4, v4, -⟩ := own_form hg1
  rw [v0] at hp0 ⊢
  rw [v2] at hg0 ⊢
  rw [v3] at hp1 ⊢
  rw [v4] at hg1 ⊢
  have Q0 := hide (Reads.of_own hp0)
  have Q1 := hide (Reads.of_own hg0)
  have Q2 := hide (Reads.of_own hp1)
  have Q3 := hide (Reads.of_own hg1)
  have HX5 := hide (HX4.out.trans hx5)
  clear v0 v2 v3 v4 hp0 hg0 hp1 hg1 hx5 HX4 HD5 HE5 HM5 HQ
  go_wp2_with fail
  have HX6 := hide (HX5.out.alloc (.cells (toldC B0 B2 B3 B4 l0 l2 l3 l4 p0 g0 p1 g1 f0 f1 s0 s1) 27))
  have HB6 := hide (Blk.new w5 27 (toldC B0 B2 B3 B4 l0 l2 l3 l4 p0 g0 p1 g1 f0 f1 s0 s1))
  have HY6 := hide ((Ext.refl w5).alloc (.cells (toldC B0 B2 B3 B4 l0 l2 l3 l4 p0 g0 p1 g1 f0 f1 s0 s1) 27))
  unfold toldC at HX6 HB6 HY6
  generalize w5.alloc (.cells #[.slice B0 p0.length l0, .slice B2 g0.length l2, .bool f0, .int .i64 s0, .slice B3 p1.length l3, .slice B4 g1.length l4, .bool f1, .int .i64 s1] 27) = w6 at *
  obtain ⟨gy, hgy⟩ : ∃ x, w5.heap.size = x := ⟨_, rfl⟩
  rw [hgy] at HB6 ⊢
  clear hgy
  refine (talked_ok w6).mono ?_
  rintro r w7 ⟨rfl, hx7⟩
  have HX7 := hide hx7
  clear hx7
  have BX := hide (HB3.out.ext (HX6.out.trans HX7.out))
  have BY := hide (HB6.out.ext HX7.out)
  have r0 := hide (((HY3.out.trans (HX6.out.trans HX7.out)).reads R0.out (Nat.le_refl _)).more (HY3.out.trans (HX6.out.trans HX7.out)).size)
  have r1 := hide (((HY3.out.trans (HX6.out.trans HX7.out)).reads R1.out (Nat.le_refl _)).more (HY3.out.trans (HX6.out.trans HX7.out)).size)
  have r2 := hide (((HY3.out.trans (HX6.out.trans HX7.out)).reads R2.out (Nat.le_refl _)).more (HY3.out.trans (HX6.out.trans HX7.out)).size)
  have r3 := hide (((HY3.out.trans (HX6.out.trans HX7.out)).reads R3.out (Nat.le_refl _)).more (HY3.out.trans (HX6.out.trans HX7.out)).size)
  have q0 := hide (((HY6.out.trans HX7.out).reads Q0.out (Nat.le_refl _)).more (HY6.out.trans HX7.out).size)
  have q1 := hide (((HY6.out.trans HX7.out).reads Q1.out (Nat.le_refl _)).more (HY6.out.trans HX7.out).size)
  have q2 := hide (((HY6.out.trans HX7.out).reads Q2.out (Nat.le_refl _)).more (HY6.out.trans HX7.out).size)
  have q3 := hide (((HY6.out.trans HX7.out).reads Q3.out (Nat.le_refl _)).more (HY6.out.trans HX7.out).size)
  have HXW := hide (HX3.out.trans (HX6.out.trans HX7.out))
  clear R0 R1 R2 R3 Q0 Q1 Q2 Q3 HX2 HX3 HB3 HY3 HX5 HX6 HB6 HY6 HX7 HR HA HB HC HD
  go_wp2_with fail
  go_loopw [42] (AnyRel w7) (fun v _ => 2 - (intOf v).toNat)
  case atStart => exact ⟨.inl rfl, Ext.refl _⟩
  case round =>
    obtain ⟨hv, hx⟩ := hrel
    have HXR := hide hx
    clear hx
    rcases hv with rfl | rfl | rfl
    · have x0 : wr.cell? ⟨gx, 0, none⟩ = some (.slice A0 p0.length k0) := (BX.out.ext HXR.out).cell 0
      have x1 : wr.cell? ⟨gx, 1, none⟩ = some (.slice A2 g0.length k2) := (BX.out.ext HXR.out).cell 1
      have x2 : wr.cell? ⟨gx, 2, none⟩ = some (.bool f0) := (BX.out.ext HXR.out).cell 2
      have x3 : wr.cell? ⟨gx, 3, none⟩ = some (.int .i64 s0) := (BX.out.ext HXR.out).cell 3
      have xk0 : ∀ nq, (convert 24 9 (.slice A0 p0.length k0)).run Try.prog (wr.drewN nq) = .ok (.string ⟨p0.toArray⟩) (wr.drewN nq) := fun nq => conv_str Try.underlying24 Try.underlying5 Try.underlying9 (Reads.drewN (HXR.out.reads r0.out (Nat.le_refl _)) nq) k0
      have xk1 : ∀ nq, (convert 24 9 (.slice A2 g0.length k2)).run Try.prog (wr.drewN nq) = .ok (.string ⟨g0.toArray⟩) (wr.drewN nq) := fun nq => conv_str Try.underlying24 Try.underlying5 Try.underlying9 (Reads.drewN (HXR.out.reads r1.out (Nat.le_refl _)) nq) k2
      have y0 : wr.cell? ⟨gy, 0, none⟩ = some (.slice B0 p0.length l0) := (BY.out.ext HXR.out).cell 0
      have y1 : wr.cell? ⟨gy, 1, none⟩ = some (.slice B2 g0.length l2) := (BY.out.ext HXR.out).cell 1
      have y2 : wr.cell? ⟨gy, 2, none⟩ = some (.bool f0) := (BY.out.ext HXR.out).cell 2
      have y3 : wr.cell? ⟨gy, 3, none⟩ = some (.int .i64 s0) := (BY.out.ext HXR.out).cell 3
      have yk0 : ∀ nq, (convert 24 9 (.slice B0 p0.length l0)).run Try.prog (wr.drewN nq) = .ok (.string ⟨p0.toArray⟩) (wr.drewN nq) := fun nq => conv_str Try.underlying24 Try.underlying5 Try.underlying9 (Reads.drewN (HXR.out.reads q0.out (Nat.le_refl _)) nq) l0
      have yk1 : ∀ nq, (convert 24 9 (.slice B2 g0.length l2)).run Try.prog (wr.drewN nq) = .ok (.string ⟨g0.toArray⟩) (wr.drewN nq) := fun nq => conv_str Try.underlying24 Try.underlying5 Try.underlying9 (Reads.drewN (HXR.out.reads q1.out (Nat.le_refl _)) nq) l2
      go_wp2_with fail
      go_quiet (fail)
      have HXQ := hide (HXR.out.drewN nq)
      clear x0 x1 x2 x3 xk0 xk1 y0 y1 y2 y3 yk0 yk1 HXR
      go_wp2_with fail
      go_roundw
      case rel => exact ⟨.inr (.inl (by go_num)), HXQ.out⟩
      case measure => simp [intOf]
    · have x0 : wr.cell? ⟨gx, 4, none⟩ = some (.slice A3 p1.length k3) := (BX.out.ext HXR.out).cell 4
      have x1 : wr.cell? ⟨gx, 5, none⟩ = some (.slice A4 g1.length k4) := (BX.out.ext HXR.out).cell 5
      have x2 : wr.cell? ⟨gx, 6, none⟩ = some (.bool f1) := (BX.out.ext HXR.out).cell 6
      have x3 : wr.cell? ⟨gx, 7, none⟩ = some (.int .i64 s1) := (BX.out.ext HXR.out).cell 7
      have xk0 : ∀ nq, (convert 24 9 (.slice A3 p1.length k3)).run Try.prog (wr.drewN nq) = .ok (.string ⟨p1.toArray⟩) (wr.drewN nq) := fun nq => conv_str Try.underlying24 Try.underlying5 Try.underlying9 (Reads.drewN (HXR.out.reads r2.out (Nat.le_refl _)) nq) k3
      have xk1 : ∀ nq, (convert 24 9 (.slice A4 g1.length k4)).run Try.prog (wr.drewN nq) = .ok (.string ⟨g1.toArray⟩) (wr.drewN nq) := fun nq => conv_str Try.underlying24 Try.underlying5 Try.underlying9 (Reads.drewN (HXR.out.reads r3.out (Nat.le_refl _)) nq) k4
      have y0 : wr.cell? ⟨gy, 4, none⟩ = some (.slice B3 p1.length l3) := (BY.out.ext HXR.out).cell 4
      have y1 : wr.cell? ⟨gy, 5, none⟩ = some (.slice B4 g1.length l4) := (BY.out.ext HXR.out).cell 5
      have y2 : wr.cell? ⟨gy, 6, none⟩ = some (.bool f1) := (BY.out.ext HXR.out).cell 6
      have y3 : wr.cell? ⟨gy, 7, none⟩ = some (.int .i64 s1) := (BY.out.ext HXR.out).cell 7
      have yk0 : ∀ nq, (convert 24 9 (.slice B3 p1.length l3)).run Try.prog (wr.drewN nq) = .ok (.string ⟨p1.toArray⟩) (wr.drewN nq) := fun nq => conv_str Try.underlying24 Try.underlying5 Try.underlying9 (Reads.drewN (HXR.out.reads q2.out (Nat.le_refl _)) nq) l3
      have yk1 : ∀ nq, (convert 24 9 (.slice B4 g1.length l4)).run Try.prog (wr.drewN nq) = .ok (.string ⟨g1.toArray⟩) (wr.drewN nq) := fun nq => conv_str Try.underlying24 Try.underlying5 Try.underlying9 (Reads.drewN (HXR.out.reads q3.out (Nat.le_refl _)) nq) l4
      go_wp2_with fail
      go_quiet (fail)
      have HXQ := hide (HXR.out.drewN nq)
      clear x0 x1 x2 x3 xk0 xk1 y0 y1 y2 y3 yk0 yk1 HXR
      go_wp2_with fail
      go_roundw
      case rel => exact ⟨.inr (.inr (by go_num)), HXQ.out⟩
      case measure => simp [intOf]
    · go_wp2_with fail
      go_ret
      exact ⟨rfl, HXW.out.trans HXR.out⟩
end Go.Proofs.Ytacfffegmmdgfaa
