/- The walk of WireFront. -/
import Derived.Test.YtacfffegmmdgfaaFrontP
import Derived.Test.YtacfffegmmdgfaaLateW
import Derived.BigQuiet
namespace Go.Proofs.Ytacfffegmmdgfaa
open Go.RowKit
set_option linter.unusedVariables false

theorem Blk.rowsF {w : World} {g : Nat} {t : TypeId} {cs : Array Value} (h : Blk w g t cs) (n size : Nat) (hs : cs.size = n * size) : Reads w w.heap.size size (some ⟨g, 0, none⟩) n cs.toList := by
  refine ⟨by simpa using hs, fun _ => ⟨_, rfl, h.lt, fun j u hu => ?_⟩⟩
  rw [add_lit, Nat.zero_add, h.cell]
  simpa using hu
theorem made_well {w w1 W : World} {L : List DeedD} {A : Option Addr} {m c : Nat} (h : Made4 w L A m c w1) (hwl : ∀ x ∈ L, WellD x) (hx : Ext w1 W) :
    ∃ ls, ls.map (·.1) = L ∧ DeedsIn W W.heap.size A m ls := by
  obtain ⟨ls, he, ho, hd, hx0⟩ := h
  refine ⟨ls, he, (hx.reads (Reads.of_own ho) (Nat.le_refl _)).raise hx.size, Nat.le_refl _, fun x hxm => ?_⟩
  have hw : WellD x.1 := hwl _ (he ▸ List.mem_map_of_mem hxm)
  obtain ⟨A', k, c', e, hk, hc, hr⟩ := hd x hxm
  exact ⟨hw.1, hw.2.1, hw.2.2.1, hw.2.2.2, A', k, c', W.heap.size, e, hk, hc, Nat.le_refl _, (((hx0.trans hx).reads hr (Nat.le_refl _))).raise ((hx0.trans hx).size)⟩
theorem well_two : ∀ x ∈ lastTwo, WellD x := fun x hx => by
  simp only [lastTwo, List.mem_cons, List.not_mem_nil, or_false] at hx
  rcases hx with rfl | rfl <;> exact ⟨by decide, by decide, by decide, by decide⟩
def twoV : List (DeedD × Value) := [(⟨2, 0, 256, []⟩, .slice none 0 0), (⟨2, 1, 256, []⟩, .slice none 0 0)]
theorem made_two {w w2 : World} {L : List DeedD} {A2 : Option Addr} {m c2 : Nat} (ls' : List (DeedD × Value)) (he : ls'.map (·.1) = L) (hd : ∀ x ∈ ls', DataAt w x) (hx : Ext w w2) (ho : w2.ownsRow w.heap.size 35 4 (.slice A2 (m + 2) c2) (m + 2) (ls'.flatMap deedC ++ twoV.flatMap deedC)) :
    Made4 w (L ++ lastTwo) A2 (m + 2) c2 w2 := by
  refine ⟨ls' ++ twoV, by rw [List.map_append, he]; rfl, by rw [List.flatMap_append]; exact ho, fun x hxm => ?_, hx⟩
  rcases List.mem_append.1 hxm with h1 | h1
  · exact hd x h1
  · have hn : Reads w w.heap.size 1 none 0 (bytesV []) := ⟨rfl, fun h => absurd h (by decide)⟩
    simp only [twoV, List.mem_cons, List.not_mem_nil, or_false] at h1
    rcases h1 with rfl | rfl <;> exact ⟨none, 0, 0, rfl, Nat.le_refl _, Nat.zero_le _, hn⟩
set_option maxHeartbeats 8000000 in
set_option maxRecDepth 100000 in
theorem front_walk (a b : Int) (ha : U32 a) (hb : U32 b) (A : Option Addr) (len k : Nat) (ls : List (DeedD × Value)) (w : World) (h : RawIn w A len ls) :
    Calls Try.prog 4 #[.int .u32 a, .int .u32 b, .slice A len k] w fun r w' => r = .returned (.bool true) ∧ Ext w w' := by
  obtain ⟨i0, hi0, hz0, hz1, hz2⟩ := info_parts deed_info
  have HA := hide ha
  have HB := hide hb
  have HR := hide h
  clear ha hb h
  go_enter Try.func4, Try.ntmps4
  go_wp2_with fail
  refine (deeds_any w A len k ls HR.out).mono ?_
  rintro r w1 ⟨A1, m1, c1, rfl, hm1, hmade1⟩
  have HM1 := hide hm1
  obtain ⟨ls1, e1, ho1, hd1, hx1⟩ := hmade1
  have HE1 := hide e1
  have HO1 := hide ho1
  have HD1 := hide hd1
  have HX1 := hide hx1
  have hs1 := hx1.size
  clear hm1 e1 ho1 hd1 hx1
  go_wp2_with (at_builtin; refine wpList_append_any _ rfl (.tmp 14) (.tmp 17) _ rfl w.heap.size 35 i0 _ 4 48 Try.underlying23 hi0 hz0 hz1 hz2 rfl (by omega) _ m1 (ls1.flatMap deedC) rfl (HO1.out.alloc _) _ _ 2 2 (twoV.flatMap deedC) rfl ((Blk.new w1 35 #[.int .i64 2, .int .i64 0, .int .i64 256, .slice none 0 0, .int .i64 2, .int .i64 1, .int .i64 256, .slice none 0 0]).rowsF 2 4 rfl) (by simp [twoV, deedC, Value.oneCell']) (by have := HM1.out; simp only [maxLen]; omega) (by have := HM1.out; omega) (by simp; omega) ?_; intro A2 c2 w2 ho2 hg2 ha2)
  have HX2 := hide ((HX1.out.trans ((Ext.refl w1).alloc (.cells #[.int .i64 2, .int .i64 0, .int .i64 256, .slice none 0 0, .int .i64 2, .int .i64 1, .int .i64 256, .slice none 0 0] 35))).grown hg2 (fun g hg => (HO1.out.lt g hg).1))
  obtain ⟨ls2, e2, hd2⟩ := made_well (made_two ls1 HE1.out HD1.out HX2.out ho2) (fun x hx => (List.mem_append.1 hx).elim (well_deeds _ x) (well_two x)) (Ext.refl w2)
  have HD2 := hide hd2
  have HE2 := hide e2
  have HFR := hide (front a b HA.out HB.out (deedsD (ls.map (·.1))) (fun x hx => (well_deeds _ x hx).2.2.2) (by
    have := HM1.out
    have h1 := flat_len deedC_len (by omega) (Reads.of_own HO1.out)
    rw [← HE1.out, List.length_map]
    omega))
  clear ho2 hg2 ha2 hd2 e2 HO1 HD1 HE1 hs1 HX1
  have hml : m1 + 2 ≤ 200 := by have := HM1.out; omega
  refine (run_any w2 a b HA.out HB.out A2 (m1 + 2) c2 _ ls2 HD2.out hml).mono ?_
  rintro r w3 ⟨P0, G0, P1, G1, rfl, hx3, hp0, hg0, hp1, hg1⟩
  rw [HE2.out] at hp0 hg0 hp1 hg1 ⊢
  generalize runL a b (deedsD (ls.map (·.1)) ++ lastTwo) = dx at *
  obtain ⟨A0, k0, v0, hl0, hm0, -⟩ := own_form hp0
  obtain ⟨B2, k2, v2, -⟩ := own_form hg0
  obtain ⟨A3, k3, v3, hl1, hm1, -⟩ := own_form hp1
  obtain ⟨A4, k4, v4, -⟩ := own_form hg1
  rw [v0] at hp0 ⊢
  rw [v2] at hg0 ⊢
  rw [v3] at hp1 ⊢
  rw [v4] at hg1 ⊢
  unfold maxLen at hm0 hm1
  have R0 := hide (Reads.of_own hp0)
  have R1 := hide (Reads.of_own hg0)
  have R2 := hide (Reads.of_own hp1)
  have R3 := hide (Reads.of_own hg1)
  have HX3 := hide (HX2.out.trans hx3)
  obtain ⟨h1, h2⟩ := HFR.out 0 (by omega)
  obtain ⟨h3, h4⟩ := HFR.out 1 (by omega)
  have q1 : dx.g 0 <+: dx.p 1 := h1
  have q2 : (dx.e 0).fin = true → (dx.e 0).st = 4 → dx.g 0 = dx.p 1 := h2
  have q3 : dx.g 1 <+: dx.p 0 := h3
  have q4 : (dx.e 1).fin = true → (dx.e 1).st = 4 → dx.g 1 = dx.p 0 := h4
  have HF0 := hide (And.intro q1 (And.intro (show (dx.p 1).length ≤ 9223372036854775807 by omega) q2))
  have HF1 := hide (And.intro q3 (And.intro (show (dx.p 0).length ≤ 9223372036854775807 by omega) q4))
  clear v0 v2 v3 v4 hp0 hg0 hp1 hg1 hx3 HFR HX2 q1 q2 q3 q4 h1 h2 h3 h4 hl0 hm0 hl1 hm1 hml HD2 HE2 HM1
  generalize dx.p 0 = p0 at *
  generalize dx.g 0 = g0 at *
  generalize dx.p 1 = p1 at *
  generalize dx.g 1 = g1 at *
  generalize (dx.e 0).st = s0 at *
  generalize (dx.e 1).st = s1 at *
  generalize (dx.e 0).fin = f0 at *
  generalize (dx.e 1).fin = f1 at *
  go_wp2_with fail
  have HX4 := hide (HX3.out.alloc (.cells (toldC A0 B2 A3 A4 k0 k2 k3 k4 p0 g0 p1 g1 f0 f1 s0 s1) 27))
  have HB4 := hide (Blk.new w3 27 (toldC A0 B2 A3 A4 k0 k2 k3 k4 p0 g0 p1 g1 f0 f1 s0 s1))
  have HY4 := hide ((Ext.refl w3).alloc (.cells (toldC A0 B2 A3 A4 k0 k2 k3 k4 p0 g0 p1 g1 f0 f1 s0 s1) 27))
  unfold toldC at HX4 HB4 HY4
  generalize w3.alloc (.cells #[.slice A0 p0.length k0, .slice B2 g0.length k2, .bool f0, .int .i64 s0, .slice A3 p1.length k3, .slice A4 g1.length k4, .bool f1, .int .i64 s1] 27) = w4 at *
  obtain ⟨gx, hgx⟩ : ∃ x, w3.heap.size = x := ⟨_, rfl⟩
  rw [hgx] at HB4 ⊢
  clear hgx
  refine (talked_ok w4).mono ?_
  rintro r w7 ⟨rfl, hx7⟩
  have HX7 := hide hx7
  clear hx7
  have BX := hide (HB4.out.ext HX7.out)
  have r0 := hide (((HY4.out.trans HX7.out).reads R0.out (Nat.le_refl _)).more (HY4.out.trans HX7.out).size)
  have r1 := hide (((HY4.out.trans HX7.out).reads R1.out (Nat.le_refl _)).more (HY4.out.trans HX7.out).size)
  have r2 := hide (((HY4.out.trans HX7.out).reads R2.out (Nat.le_refl _)).more (HY4.out.trans HX7.out).size)
  have r3 := hide (((HY4.out.trans HX7.out).reads R3.out (Nat.le_refl _)).more (HY4.out.trans HX7.out).size)
  have HXW := hide (HX4.out.trans HX7.out)
  clear R0 R1 R2 R3 HX3 HB4 HY4 HX4 HX7 HR HA HB
  go_wp2_with fail
  go_loopw [32] (AnyRel w7) (fun v _ => 2 - (intOf v).toNat)
  case atStart => exact ⟨.inl rfl, Ext.refl _⟩
  case round =>
    obtain ⟨hv, hx⟩ := hrel
    have HXR := hide hx
    clear hx
    rcases hv with rfl | rfl | rfl
    · have x0 : wr.cell? ⟨gx, 4, none⟩ = some (.slice A3 p1.length k3) := (BX.out.ext HXR.out).cell 4
      have x1 : wr.cell? ⟨gx, 1, none⟩ = some (.slice B2 g0.length k2) := (BX.out.ext HXR.out).cell 1
      have x2 : wr.cell? ⟨gx, 2, none⟩ = some (.bool f0) := (BX.out.ext HXR.out).cell 2
      have x3 : wr.cell? ⟨gx, 3, none⟩ = some (.int .i64 s0) := (BX.out.ext HXR.out).cell 3
      have xk0 : ∀ nq, (convert 24 9 (.slice A3 p1.length k3)).run Try.prog (wr.drewN nq) = .ok (.string (str p1)) (wr.drewN nq) := fun nq => conv_str' Try.underlying24 Try.underlying5 Try.underlying9 (Reads.drewN (HXR.out.reads r2.out (Nat.le_refl _)) nq) k3
      have xk1 : ∀ nq, (convert 24 9 (.slice B2 g0.length k2)).run Try.prog (wr.drewN nq) = .ok (.string (str g0)) (wr.drewN nq) := fun nq => conv_str' Try.underlying24 Try.underlying5 Try.underlying9 (Reads.drewN (HXR.out.reads r1.out (Nat.le_refl _)) nq) k2
      have HQ := hide (fun W : World => prefix_front g0 p1 W HF0.out.1 HF0.out.2.1)
      have HFF := hide (fun h1 h4 => congrArg str (HF0.out.2.2 h1 h4))
      generalize str p1 = S0 at *
      generalize str g0 = T0 at *
      go_wp2_with fail
      go_quiet (fail)
      have HXQ := hide (HXR.out.drewN nq)
      have y2 : (wr.drewN nq).cell? ⟨gx, 2, none⟩ = some (.bool f0) := x2
      have y3 : (wr.drewN nq).cell? ⟨gx, 3, none⟩ = some (.int .i64 s0) := x3
      generalize wr.drewN nq = wq at *
      clear x0 x1 x2 x3 xk0 xk1 HXR
      go_wp2_with fail
      refine (HQ.out _).mono ?_
      rintro r wq' ⟨rfl, rfl⟩
      by_cases hc1 : f0 = true
      · subst hc1
        by_cases hc2 : s0 = 4
        · subst hc2
          have hc3 := HFF.out rfl rfl
          subst hc3
          go_wp2_with fail
          go_roundw
          case rel => exact ⟨.inr (.inl (by go_num)), HXQ.out⟩
          case measure => simp [intOf]
        · go_wp2_with fail
          go_roundw
          case rel => exact ⟨.inr (.inl (by go_num)), HXQ.out⟩
          case measure => simp [intOf]
      · simp only [Bool.not_eq_true] at hc1
        subst hc1
        go_wp2_with fail
        go_roundw
        case rel => exact ⟨.inr (.inl (by go_num)), HXQ.out⟩
        case measure => simp [intOf]
    · have x0 : wr.cell? ⟨gx, 0, none⟩ = some (.slice A0 p0.length k0) := (BX.out.ext HXR.out).cell 0
      have x1 : wr.cell? ⟨gx, 5, none⟩ = some (.slice A4 g1.length k4) := (BX.out.ext HXR.out).cell 5
      have x2 : wr.cell? ⟨gx, 6, none⟩ = some (.bool f1) := (BX.out.ext HXR.out).cell 6
      have x3 : wr.cell? ⟨gx, 7, none⟩ = some (.int .i64 s1) := (BX.out.ext HXR.out).cell 7
      have xk0 : ∀ nq, (convert 24 9 (.slice A0 p0.length k0)).run Try.prog (wr.drewN nq) = .ok (.string (str p0)) (wr.drewN nq) := fun nq => conv_str' Try.underlying24 Try.underlying5 Try.underlying9 (Reads.drewN (HXR.out.reads r0.out (Nat.le_refl _)) nq) k0
      have xk1 : ∀ nq, (convert 24 9 (.slice A4 g1.length k4)).run Try.prog (wr.drewN nq) = .ok (.string (str g1)) (wr.drewN nq) := fun nq => conv_str' Try.underlying24 Try.underlying5 Try.underlying9 (Reads.drewN (HXR.out.reads r3.out (Nat.le_refl _)) nq) k4
      have HQ := hide (fun W : World => prefix_front g1 p0 W HF1.out.1 HF1.out.2.1)
      have HFF := hide (fun h1 h4 => congrArg str (HF1.out.2.2 h1 h4))
      generalize str p0 = S0 at *
      generalize str g1 = T0 at *
      go_wp2_with fail
      go_quiet (fail)
      have HXQ := hide (HXR.out.drewN nq)
      have y2 : (wr.drewN nq).cell? ⟨gx, 6, none⟩ = some (.bool f1) := x2
      have y3 : (wr.drewN nq).cell? ⟨gx, 7, none⟩ = some (.int .i64 s1) := x3
      generalize wr.drewN nq = wq at *
      clear x0 x1 x2 x3 xk0 xk1 HXR
      go_wp2_with fail
      refine (HQ.out _).mono ?_
      rintro r wq' ⟨rfl, rfl⟩
      by_cases hc1 : f1 = true
      · subst hc1
        by_cases hc2 : s1 = 4
        · subst hc2
          have hc3 := HFF.out rfl rfl
          subst hc3
          go_wp2_with fail
          go_roundw
          case rel => exact ⟨.inr (.inr (by go_num)), HXQ.out⟩
          case measure => simp [intOf]
        · go_wp2_with fail
          go_roundw
          case rel => exact ⟨.inr (.inr (by go_num)), HXQ.out⟩
          case measure => simp [intOf]
      · simp only [Bool.not_eq_true] at hc1
        subst hc1
        go_wp2_with fail
        go_roundw
        case rel => exact ⟨.inr (.inr (by go_num)), HXQ.out⟩
        case measure => simp [intOf]
    · go_wp2_with fail
      go_ret
      exact ⟨rfl, HXW.out.trans HXR.out⟩
end Go.Proofs.Ytacfffegmmdgfaa
