/- The walk of WireLate. -/
import Derived.Test.YtacfffegmmdgfaaTellW
import Derived.Test.YtacfffegmmdgfaaAnyW
import Derived.Test.YtacfffegmmdgfaaPrefix
import Derived.BigQuiet
namespace Go.Proofs.Ytacfffegmmdgfaa
open Go.RowKit
set_option linter.unusedVariables false

theorem DeedsIn.take {w : World} {B n : Nat} {A : Option Addr} {ls : List (DeedD × Value)} (h : DeedsIn w B A n ls) (z : Nat) (hz : z ≤ n) : DeedsIn w B A z (ls.take z) := by
  have hl := flat_len deedC_len (by omega) h.row
  refine ⟨⟨by rw [flat_length deedC_len, List.length_take, hl, Nat.min_eq_left hz], fun hn => ?_⟩, h.base, fun x hx => h.each x (List.mem_of_mem_take hx)⟩
  obtain ⟨ad, e, hb, hc⟩ := h.row.2 (by omega)
  refine ⟨ad, e, hb, fun j u hu => hc j u ?_⟩
  rw [← List.take_append_drop z ls, List.flatMap_append, List.getElem?_append_left (List.getElem?_eq_some_iff.1 hu).1]
  exact hu
theorem DeedsIn.ext {w w' : World} {B n : Nat} {A : Option Addr} {ls : List (DeedD × Value)} (h : DeedsIn w B A n ls) (hx : Ext w w') : DeedsIn w' B A n ls :=
  ⟨hx.reads h.row h.base, Nat.le_trans h.base hx.size, fun x hxm => by
    obtain ⟨h1, h2, h3, h4, A', k, c, B', e, hk, hc, hb, hr⟩ := h.each x hxm
    exact ⟨h1, h2, h3, h4, A', k, c, B', e, hk, hc, Nat.le_trans hb hx.size, hx.reads hr hb⟩⟩
theorem prefix_front (x y : List UInt8) (w : World) (h : x <+: y) (hl : y.length ≤ 9223372036854775807) :
    Calls Try.prog 9 #[.string (str y), .string (str x)] w fun e w' => e = .returned (.bool true) ∧ w = w' := by
  obtain ⟨t, rfl⟩ := h
  rw [List.length_append] at hl
  exact prefix_true x t w hl
set_option maxHeartbeats 8000000 in
set_option maxRecDepth 100000 in
theorem late_walk (a b n : Int) (ha : U32 a) (hb : U32 b) (hn : I64 n) (A : Option Addr) (len k : Nat) (ls : List (DeedD × Value)) (w : World) (h : RawIn w A len ls) :
    Calls Try.prog 5 #[.int .u32 a, .int .u32 b, .slice A len k, .int .i64 n] w fun r w' => r = .returned (.bool true) ∧ Ext w w' := by
  have HA := hide ha
  have HB := hide hb
  have HN := hide hn
  have HR := hide h
  have HLT := hide (late a b (deedsD (ls.map (·.1))))
  clear ha hb hn h
  go_enter Try.func5, Try.ntmps5
  go_wp2_with fail
  refine (deeds_any w A len k ls HR.out).mono ?_
  rintro r w1 ⟨A1, m1, c1, rfl, hm1, hmade1⟩
  obtain ⟨ls1, e1, hd1⟩ := made_in hmade1 (Ext.refl w1)
  obtain ⟨A1', c1', v1', hmc, hcm, -⟩ := own_form hmade1.choose_spec.2.1
  injection v1' with hA _ hcc
  subst hA
  subst hcc
  have HX1 := hide hmade1.choose_spec.2.2.2
  have HD1 := hide hd1
  have HE1 := hide e1
  have HM1 := hide hm1
  have HMC := hide hmc
  have HCM := hide hcm
  clear hmade1 hd1 e1 hm1 hmc hcm
  go_wp2_with fail
  have hw : wrap64 ((m1 : Int) + 1) = (m1 : Int) + 1 := by
    have := HM1.out
    unfold wrap64
    omega
  rw [hw]
  clear hw
  refine (rest_any n (m1 + 1) w1 HN.out.1 HN.out.2 (by omega) (by have := HM1.out; omega)).mono ?_
  rintro r w1' ⟨rfl, rfl⟩
  obtain ⟨z, hz⟩ : ∃ z : Nat, restZ n (m1 + 1) = z := ⟨(restZ n (m1 + 1)).toNat, (Int.toNat_of_nonneg (restZ_lo n _ (by omega))).symm⟩
  have hzm : z ≤ m1 := by have := restZ_hi n (m1 + 1) (by omega); omega
  have HZ := hide hzm
  have hzc : z ≤ c1 := by have := HMC.out; omega
  have hcm := HCM.out
  unfold maxLen at hcm
  rw [hz]
  clear hz hzm
  go_wp2_with fail
  have hzl : z ≤ 200 := by have := HM1.out; have := HZ.out; omega
  refine (run_any w1 a b HA.out HB.out A1 z c1 _ (ls1.take z) (HD1.out.take z HZ.out) hzl).mono ?_
  rintro r w2 ⟨P0, G0, P1, G1, rfl, hx2, hp0, hg0, hp1, hg1⟩
  rw [List.map_take, HE1.out] at hp0 hg0 hp1 hg1 ⊢
  have HL := hide (HLT.out z)
  generalize runL a b ((deedsD (ls.map (·.1))).take z) = dx at *
  obtain ⟨A0, k0, v0, -⟩ := own_form hp0
  obtain ⟨A2, k2, v2, -⟩ := own_form hg0
  obtain ⟨A3, k3, v3, -⟩ := own_form hp1
  obtain ⟨A4, k4, v4, -⟩ := own_form hg1
  rw [v0] at hp0 ⊢
  rw [v2] at hg0 ⊢
  rw [v3] at hp1 ⊢
  rw [v4] at hg1 ⊢
  have R0 := hide (Reads.of_own hp0)
  have R1 := hide (Reads.of_own hg0)
  have R2 := hide (Reads.of_own hp1)
  have R3 := hide (Reads.of_own hg1)
  have HX2 := hide (HX1.out.trans hx2)
  have HZ2 := hide hx2
  clear v0 v2 v3 v4 hp0 hg0 hp1 hg1 hx2 HLT HX1 hzl
  have he0 := HL.out.p 0 (by omega)
  have he1 := HL.out.g 0 (by omega)
  have he2 := HL.out.p 1 (by omega)
  have he3 := HL.out.g 1 (by omega)
  have HE := hide (And.intro he0 (And.intro he1 (And.intro he2 he3)))
  clear HL he0 he1 he2 he3
  generalize dx.p 0 = p0 at *
  generalize dx.g 0 = g0 at *
  generalize dx.p 1 = p1 at *
  generalize dx.g 1 = g1 at *
  generalize (dx.e 0).st = s0 at *
  generalize (dx.e 1).st = s1 at *
  generalize (dx.e 0).fin = f0 at *
  generalize (dx.e 1).fin = f1 at *
  go_wp2_with fail
  have HX3 := hide (HX2.out.alloc (.cells (toldC A0 A2 A3 A4 k0 k2 k3 k4 p0 g0 p1 g1 f0 f1 s0 s1) 27))
  have HZ3 := hide (HZ2.out.alloc (.cells (toldC A0 A2 A3 A4 k0 k2 k3 k4 p0 g0 p1 g1 f0 f1 s0 s1) 27))
  have HB3 := hide (Blk.new w2 27 (toldC A0 A2 A3 A4 k0 k2 k3 k4 p0 g0 p1 g1 f0 f1 s0 s1))
  have HY3 := hide ((Ext.refl w2).alloc (.cells (toldC A0 A2 A3 A4 k0 k2 k3 k4 p0 g0 p1 g1 f0 f1 s0 s1) 27))
  unfold toldC at HX3 HZ3 HB3 HY3
  generalize w2.alloc (.cells #[.slice A0 p0.length k0, .slice A2 g0.length k2, .bool f0, .int .i64 s0, .slice A3 p1.length k3, .slice A4 g1.length k4, .bool f1, .int .i64 s1] 27) = w3 at *
  obtain ⟨gx, hgx⟩ : ∃ x, w2.heap.size = x := ⟨_, rfl⟩
  rw [hgx] at HB3 ⊢
  clear hgx
  have hml : m1 ≤ 200 := by have := HM1.out; omega
  refine (run_any w3 a b HA.out HB.out A1 m1 c1 _ ls1 (HD1.out.ext HZ3.out) hml).mono ?_
  rintro r w5 ⟨P0, G0, P1, G1, rfl, hx5, hp0, hg0, hp1, hg1⟩
  rw [HE1.out] at hp0 hg0 hp1 hg1 ⊢
  generalize runL a b (deedsD (ls.map (·.1))) = dy at *
  generalize dy.p 0 = u0 at *
  generalize dy.g 0 = u1 at *
  generalize dy.p 1 = u2 at *
  generalize dy.g 1 = u3 at *
  obtain ⟨B0, l0, v0, hl0, hm0, -⟩ := own_form hp0
  obtain ⟨B2, l2, v2, hl2, hm2, -⟩ := own_form hg0
  obtain ⟨B3, l3, v3, hl3, hm3, -⟩ := own_form hp1
  obtain ⟨B4, l4, v4, hl4, hm4, -⟩ := own_form hg1
  rw [v0] at hp0 ⊢
  rw [v2] at hg0 ⊢
  rw [v3] at hp1 ⊢
  rw [v4] at hg1 ⊢
  unfold maxLen at hm0 hm2 hm3 hm4
  have HQ0 := hide (fun W : World => prefix_front p0 u0 W HE.out.1 (by omega))
  have HQ1 := hide (fun W : World => prefix_front g0 u1 W HE.out.2.1 (by omega))
  have HQ2 := hide (fun W : World => prefix_front p1 u2 W HE.out.2.2.1 (by omega))
  have HQ3 := hide (fun W : World => prefix_front g1 u3 W HE.out.2.2.2 (by omega))
  have Q0 := hide (Reads.of_own hp0)
  have Q1 := hide (Reads.of_own hg0)
  have Q2 := hide (Reads.of_own hp1)
  have Q3 := hide (Reads.of_own hg1)
  have HX5 := hide (HX3.out.trans hx5)
  have HZ5 := hide hx5
  clear v0 v2 v3 v4 hp0 hg0 hp1 hg1 hx5 hl0 hl2 hl3 hl4 hm0 hm2 hm3 hm4 HE HD1 HE1 HM1 HMC HCM HZ HX2 HZ2 hzc hcm hml HZ3 HX3
  generalize (dy.e 0).st = t0 at *
  generalize (dy.e 1).st = t1 at *
  generalize (dy.e 0).fin = h0 at *
  generalize (dy.e 1).fin = h1 at *
  go_wp2_with fail
  have HX6 := hide (HX5.out.alloc (.cells (toldC B0 B2 B3 B4 l0 l2 l3 l4 u0 u1 u2 u3 h0 h1 t0 t1) 27))
  have HZ6 := hide (HZ5.out.alloc (.cells (toldC B0 B2 B3 B4 l0 l2 l3 l4 u0 u1 u2 u3 h0 h1 t0 t1) 27))
  have HB6 := hide (Blk.new w5 27 (toldC B0 B2 B3 B4 l0 l2 l3 l4 u0 u1 u2 u3 h0 h1 t0 t1))
  have HY6 := hide ((Ext.refl w5).alloc (.cells (toldC B0 B2 B3 B4 l0 l2 l3 l4 u0 u1 u2 u3 h0 h1 t0 t1) 27))
  unfold toldC at HX6 HZ6 HB6 HY6
  generalize w5.alloc (.cells #[.slice B0 u0.length l0, .slice B2 u1.length l2, .bool h0, .int .i64 t0, .slice B3 u2.length l3, .slice B4 u3.length l4, .bool h1, .int .i64 t1] 27) = w6 at *
  obtain ⟨gy, hgy⟩ : ∃ x, w5.heap.size = x := ⟨_, rfl⟩
  rw [hgy] at HB6 ⊢
  clear hgy
  refine (talked_ok w6).mono ?_
  rintro r w7 ⟨rfl, hx7⟩
  have HX7 := hide hx7
  clear hx7
  have BX := hide (HB3.out.ext (HZ6.out.trans HX7.out))
  have BY := hide (HB6.out.ext HX7.out)
  have r0 := hide (((HY3.out.trans (HZ6.out.trans HX7.out)).reads R0.out (Nat.le_refl _)).more (HY3.out.trans (HZ6.out.trans HX7.out)).size)
  have r1 := hide (((HY3.out.trans (HZ6.out.trans HX7.out)).reads R1.out (Nat.le_refl _)).more (HY3.out.trans (HZ6.out.trans HX7.out)).size)
  have r2 := hide (((HY3.out.trans (HZ6.out.trans HX7.out)).reads R2.out (Nat.le_refl _)).more (HY3.out.trans (HZ6.out.trans HX7.out)).size)
  have r3 := hide (((HY3.out.trans (HZ6.out.trans HX7.out)).reads R3.out (Nat.le_refl _)).more (HY3.out.trans (HZ6.out.trans HX7.out)).size)
  have q0 := hide (((HY6.out.trans HX7.out).reads Q0.out (Nat.le_refl _)).more (HY6.out.trans HX7.out).size)
  have q1 := hide (((HY6.out.trans HX7.out).reads Q1.out (Nat.le_refl _)).more (HY6.out.trans HX7.out).size)
  have q2 := hide (((HY6.out.trans HX7.out).reads Q2.out (Nat.le_refl _)).more (HY6.out.trans HX7.out).size)
  have q3 := hide (((HY6.out.trans HX7.out).reads Q3.out (Nat.le_refl _)).more (HY6.out.trans HX7.out).size)
  have HXW := hide (HX6.out.trans HX7.out)
  clear R0 R1 R2 R3 Q0 Q1 Q2 Q3 HB3 HY3 HX5 HZ5 HX6 HZ6 HB6 HY6 HX7 HR HA HB HN
  go_wp2_with fail
  go_loopw [47] (AnyRel w7) (fun v _ => 2 - (intOf v).toNat)
  case atStart => exact ⟨.inl rfl, Ext.refl _⟩
  case round =>
    obtain ⟨hv, hx⟩ := hrel
    have HXR := hide hx
    clear hx
    rcases hv with rfl | rfl | rfl
    · clear HQ2 HQ3
      have x0 : wr.cell? ⟨gx, 0, none⟩ = some (.slice A0 p0.length k0) := (BX.out.ext HXR.out).cell 0
      have x1 : wr.cell? ⟨gx, 1, none⟩ = some (.slice A2 g0.length k2) := (BX.out.ext HXR.out).cell 1
      have y0 : wr.cell? ⟨gy, 0, none⟩ = some (.slice B0 u0.length l0) := (BY.out.ext HXR.out).cell 0
      have y1 : wr.cell? ⟨gy, 1, none⟩ = some (.slice B2 u1.length l2) := (BY.out.ext HXR.out).cell 1
      have xk0 : ∀ nq, (convert 24 9 (.slice A0 p0.length k0)).run Try.prog (wr.drewN nq) = .ok (.string (str p0)) (wr.drewN nq) := fun nq => conv_str' Try.underlying24 Try.underlying5 Try.underlying9 (Reads.drewN (HXR.out.reads r0.out (Nat.le_refl _)) nq) k0
      have xk1 : ∀ nq, (convert 24 9 (.slice A2 g0.length k2)).run Try.prog (wr.drewN nq) = .ok (.string (str g0)) (wr.drewN nq) := fun nq => conv_str' Try.underlying24 Try.underlying5 Try.underlying9 (Reads.drewN (HXR.out.reads r1.out (Nat.le_refl _)) nq) k2
      have yk0 : ∀ nq, (convert 24 9 (.slice B0 u0.length l0)).run Try.prog (wr.drewN nq) = .ok (.string (str u0)) (wr.drewN nq) := fun nq => conv_str' Try.underlying24 Try.underlying5 Try.underlying9 (Reads.drewN (HXR.out.reads q0.out (Nat.le_refl _)) nq) l0
      have yk1 : ∀ nq, (convert 24 9 (.slice B2 u1.length l2)).run Try.prog (wr.drewN nq) = .ok (.string (str u1)) (wr.drewN nq) := fun nq => conv_str' Try.underlying24 Try.underlying5 Try.underlying9 (Reads.drewN (HXR.out.reads q1.out (Nat.le_refl _)) nq) l2
      generalize str u0 = S0 at *
      generalize str u1 = S1 at *
      generalize str p0 = T0 at *
      generalize str g0 = T1 at *
      generalize u0.length = n0 at *
      generalize u1.length = n1 at *
      go_wp2_with fail
      go_quiet ((go_at_call 9; first | (with_reducible exact quiet_eq (HQ1.out _)) | (with_reducible exact quiet_eq (HQ0.out _))))
      have HXQ := hide (HXR.out.drewN nq)
      clear x0 x1 xk0 xk1 y0 y1 yk0 yk1 HXR HQ0 HQ1
      go_wp2_with fail
      go_roundw
      case rel => exact ⟨.inr (.inl (by go_num)), HXQ.out⟩
      case measure => simp [intOf]
    · clear HQ0 HQ1
      have x0 : wr.cell? ⟨gx, 4, none⟩ = some (.slice A3 p1.length k3) := (BX.out.ext HXR.out).cell 4
      have x1 : wr.cell? ⟨gx, 5, none⟩ = some (.slice A4 g1.length k4) := (BX.out.ext HXR.out).cell 5
      have y0 : wr.cell? ⟨gy, 4, none⟩ = some (.slice B3 u2.length l3) := (BY.out.ext HXR.out).cell 4
      have y1 : wr.cell? ⟨gy, 5, none⟩ = some (.slice B4 u3.length l4) := (BY.out.ext HXR.out).cell 5
      have xk0 : ∀ nq, (convert 24 9 (.slice A3 p1.length k3)).run Try.prog (wr.drewN nq) = .ok (.string (str p1)) (wr.drewN nq) := fun nq => conv_str' Try.underlying24 Try.underlying5 Try.underlying9 (Reads.drewN (HXR.out.reads r2.out (Nat.le_refl _)) nq) k3
      have xk1 : ∀ nq, (convert 24 9 (.slice A4 g1.length k4)).run Try.prog (wr.drewN nq) = .ok (.string (str g1)) (wr.drewN nq) := fun nq => conv_str' Try.underlying24 Try.underlying5 Try.underlying9 (Reads.drewN (HXR.out.reads r3.out (Nat.le_refl _)) nq) k4
      have yk0 : ∀ nq, (convert 24 9 (.slice B3 u2.length l3)).run Try.prog (wr.drewN nq) = .ok (.string (str u2)) (wr.drewN nq) := fun nq => conv_str' Try.underlying24 Try.underlying5 Try.underlying9 (Reads.drewN (HXR.out.reads q2.out (Nat.le_refl _)) nq) l3
      have yk1 : ∀ nq, (convert 24 9 (.slice B4 u3.length l4)).run Try.prog (wr.drewN nq) = .ok (.string (str u3)) (wr.drewN nq) := fun nq => conv_str' Try.underlying24 Try.underlying5 Try.underlying9 (Reads.drewN (HXR.out.reads q3.out (Nat.le_refl _)) nq) l4
      have HQ0 := hide HQ2.out
      have HQ1 := hide HQ3.out
      generalize str u2 = S0 at *
      generalize str u3 = S1 at *
      generalize str p1 = T0 at *
      generalize str g1 = T1 at *
      generalize u2.length = n0 at *
      generalize u3.length = n1 at *
      go_wp2_with fail
      go_quiet ((go_at_call 9; first | (with_reducible exact quiet_eq (HQ1.out _)) | (with_reducible exact quiet_eq (HQ0.out _))))
      have HXQ := hide (HXR.out.drewN nq)
      clear x0 x1 xk0 xk1 y0 y1 yk0 yk1 HXR HQ0 HQ1
      go_wp2_with fail
      go_roundw
      case rel => exact ⟨.inr (.inr (by go_num)), HXQ.out⟩
      case measure => simp [intOf]
    · go_wp2_with fail
      go_ret
      exact ⟨rfl, HXW.out.trans HXR.out⟩
end Go.Proofs.Ytacfffegmmdgfaa
