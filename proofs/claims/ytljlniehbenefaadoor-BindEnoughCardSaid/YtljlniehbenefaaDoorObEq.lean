/- slices.Equal of slices that read the same; sameObject of two parts that read the same. -/
import Derived.Test.YtljlniehbenefaaDoorObMem
import Derived.Deep.QuietTactic
import Derived.BigQuiet
namespace Go.Proofs.YtljlniehbenefaaDoor
open Go.RowKit
set_option linter.unusedVariables false

def EqSRel (w : World) (n : Nat) (i : Value) (wr : World) : Prop := ∃ k : Nat, k ≤ n ∧ i = .int .i64 k ∧ ∃ d, wr = w.drewN d
set_option maxRecDepth 100000 in
theorem equal_u32 (A : Option Addr) (n c B : Nat) (l : List Nat) (A' : Option Addr) (c' B' : Nat) (w : World) (hx : Reads w B 1 A n (codeV l)) (hy : Reads w B' 1 A' n (codeV l)) (hn : n ≤ 100000) :
    Calls Tryd.prog 27 #[.slice A n c, .slice A' n c'] w fun e w' => e = .returned (.bool true) ∧ ∃ d, w' = w.drewN d := by
  have t0 : ((n : Int) != (n : Int)) = false := by simp
  have LX := hide (show l.length = n by have := hx.1; rw [codeV_len] at this; omega)
  have HX := hide hx
  have HY := hide hy
  clear hx hy
  go_enter Tryd.func27, Tryd.ntmps27
  go_wp2_with fail
  go_loopw [13] (EqSRel w n) (fun i _ => n - (intOf i).toNat)
  case atStart => exact ⟨0, Nat.zero_le _, rfl, 0, rfl⟩
  case round =>
    obtain ⟨k, hk, rfl, d, rfl⟩ := hrel
    by_cases hlt : k < n
    · obtain ⟨b, off, rfl, -, h1⟩ := HX.out.at1 (by omega)
      obtain ⟨b', off', rfl, -, h2⟩ := HY.out.at1 (by omega)
      have g1 := h1 k hlt
      have g2 := h2 k hlt
      obtain ⟨z, hz⟩ : ∃ z : Int, (codeV l)[k]'(by rw [codeV_len, LX.out]; exact hlt) = .int .u32 z := ⟨_, by simp [codeV]; rfl⟩
      rw [hz] at g1 g2
      have t1 : (z != z) = false := by simp
      clear h1 h2 hz
      go_upto_region 6 with fail
      go_quiet (fail)
      go_wp2_with fail
      go_roundw
      case rel => exact ⟨k + 1, by omega, by go_num, _, rfl⟩
      case measure => simp [intOf]; omega
    · obtain rfl : k = n := by omega
      go_wp2_with fail
      go_ret
      exact ⟨rfl, _, rfl⟩
set_option maxRecDepth 100000 in
theorem equal_nm (A : Option Addr) (n c B : Nat) (l : List NmD) (A' : Option Addr) (c' B' : Nat) (w : World) (hx : Reads w B 4 A n (l.flatMap nmC)) (hy : Reads w B' 4 A' n (l.flatMap nmC)) (hn : n ≤ 100000) :
    Calls Tryd.prog 28 #[.slice A n c, .slice A' n c'] w fun e w' => e = .returned (.bool true) ∧ ∃ d, w' = w.drewN d := by
  have t0 : ((n : Int) != (n : Int)) = false := by simp
  have LX := hide (flat_len nmC_len (by omega) hx)
  have HX := hide hx
  have HY := hide hy
  clear hx hy
  go_enter Tryd.func28, Tryd.ntmps28
  go_wp2_with fail
  go_loopw [13] (EqSRel w n) (fun i _ => n - (intOf i).toNat)
  case atStart => exact ⟨0, Nat.zero_le _, rfl, 0, rfl⟩
  case round =>
    obtain ⟨k, hk, rfl, d, rfl⟩ := hrel
    by_cases hlt : k < n
    · obtain ⟨b, off, rfl, -⟩ := HX.out.addr (by omega) (by omega)
      obtain ⟨b', off', rfl, -⟩ := HY.out.addr (by omega) (by omega)
      have hkl : k < l.length := by have := LX.out; omega
      have g0 := Reads.elem nmC_len HX.out k hkl (by omega) 0 (by omega) rfl
      have g1 := Reads.elem nmC_len HX.out k hkl (by omega) 1 (by omega) rfl
      have g2 := Reads.elem nmC_len HX.out k hkl (by omega) 2 (by omega) rfl
      have g3 := Reads.elem nmC_len HX.out k hkl (by omega) 3 (by omega) rfl
      have y0 := Reads.elem nmC_len HY.out k hkl (by omega) 0 (by omega) rfl
      have y1 := Reads.elem nmC_len HY.out k hkl (by omega) 1 (by omega) rfl
      have y2 := Reads.elem nmC_len HY.out k hkl (by omega) 2 (by omega) rfl
      have y3 := Reads.elem nmC_len HY.out k hkl (by omega) 3 (by omega) rfl
      rw [Nat.add_zero] at g0 y0
      generalize l[k] = x at *
      obtain ⟨nm, wh, pos, wk⟩ := x
      dsimp only at *
      generalize str nm = snm at *
      go_upto_region 6 with fail
      go_quiet (fail)
      go_wp2_with fail
      go_roundw
      case rel => exact ⟨k + 1, by omega, by go_num, _, rfl⟩
      case measure => simp [intOf]; omega
    · obtain rfl : k = n := by omega
      go_wp2_with fail
      go_ret
      exact ⟨rfl, _, rfl⟩
set_option maxRecDepth 100000 in
theorem equal_ne (A : Option Addr) (n c B : Nat) (l : List NeD) (A' : Option Addr) (c' B' : Nat) (w : World) (hx : Reads w B 3 A n (l.flatMap neC)) (hy : Reads w B' 3 A' n (l.flatMap neC)) (hn : n ≤ 100000) :
    Calls Tryd.prog 29 #[.slice A n c, .slice A' n c'] w fun e w' => e = .returned (.bool true) ∧ ∃ d, w' = w.drewN d := by
  have t0 : ((n : Int) != (n : Int)) = false := by simp
  have LX := hide (flat_len neC_len (by omega) hx)
  have HX := hide hx
  have HY := hide hy
  clear hx hy
  go_enter Tryd.func29, Tryd.ntmps29
  go_wp2_with fail
  go_loopw [13] (EqSRel w n) (fun i _ => n - (intOf i).toNat)
  case atStart => exact ⟨0, Nat.zero_le _, rfl, 0, rfl⟩
  case round =>
    obtain ⟨k, hk, rfl, d, rfl⟩ := hrel
    by_cases hlt : k < n
    · obtain ⟨b, off, rfl, -⟩ := HX.out.addr (by omega) (by omega)
      obtain ⟨b', off', rfl, -⟩ := HY.out.addr (by omega) (by omega)
      have hkl : k < l.length := by have := LX.out; omega
      have g0 := Reads.elem neC_len HX.out k hkl (by omega) 0 (by omega) rfl
      have g1 := Reads.elem neC_len HX.out k hkl (by omega) 1 (by omega) rfl
      have g2 := Reads.elem neC_len HX.out k hkl (by omega) 2 (by omega) rfl
      have y0 := Reads.elem neC_len HY.out k hkl (by omega) 0 (by omega) rfl
      have y1 := Reads.elem neC_len HY.out k hkl (by omega) 1 (by omega) rfl
      have y2 := Reads.elem neC_len HY.out k hkl (by omega) 2 (by omega) rfl
      rw [Nat.add_zero] at g0 y0
      generalize l[k] = x at *
      obtain ⟨pos, nm, kind⟩ := x
      dsimp only at *
      generalize str nm = snm at *
      go_upto_region 6 with fail
      go_quiet (fail)
      go_wp2_with fail
      go_roundw
      case rel => exact ⟨k + 1, by omega, by go_num, _, rfl⟩
      case measure => simp [intOf]; omega
    · obtain rfl : k = n := by omega
      go_wp2_with fail
      go_ret
      exact ⟨rfl, _, rfl⟩
set_option maxHeartbeats 4000000 in
set_option maxRecDepth 100000 in
theorem same_any (o : ObD) (v u : ObV) (w : World) (hv : ObRd w o v) (hu : ObRd w o u) (hs : ObSm o) :
    Calls Tryd.prog 11 #[.agg v.cells, .agg u.cells] w fun e w' => e = .returned (.bool true) ∧ Ext w w' := by
  have e1 : u.n1 = v.n1 := by rw [← hv.l1, ← hu.l1]
  have e2 : u.n2 = v.n2 := by rw [← hv.l2, ← hu.l2]
  have e3 : u.n3 = v.n3 := by rw [← hv.l3, ← hu.l3]
  have e4 : u.n4 = v.n4 := by rw [← hv.l4, ← hu.l4]
  have b1 : v.n1 ≤ 100000 := by rw [← hv.l1]; exact hs.code
  have b3 : v.n3 ≤ 100000 := by rw [← hv.l3]; exact hs.nms
  have b4 : v.n4 ≤ 100000 := by rw [← hv.l4]; exact hs.nds
  have HV := hide hv
  have HU := hide hu
  obtain ⟨A1, n1, c1, A2, n2, c2, A3, n3, c3, A4, n4, c4⟩ := v
  obtain ⟨B1, m1, d1, B2, m2, d2, B3, m3, d3, B4, m4, d4⟩ := u
  dsimp only at e1 e2 e3 e4 b1 b3 b4
  subst e1 e2 e3 e4
  show Calls Tryd.prog 11 #[.agg #[.slice A1 m1 c1, .slice A2 m2 c2, .slice A3 m3 c3, .slice A4 m4 c4], .agg #[.slice B1 m1 d1, .slice B2 m2 d2, .slice B3 m3 d3, .slice B4 m4 d4]] w _
  have hb1 := (Blk.new w obT #[.slice A1 m1 c1, .slice A2 m2 c2, .slice A3 m3 c3, .slice A4 m4 c4]).alloc (.cells #[.slice B1 m1 d1, .slice B2 m2 d2, .slice B3 m3 d3, .slice B4 m4 d4] obT)
  have hb2 := Blk.new' (w.alloc (.cells #[.slice A1 m1 c1, .slice A2 m2 c2, .slice A3 m3 c3, .slice A4 m4 c4] obT)) obT #[.slice B1 m1 d1, .slice B2 m2 d2, .slice B3 m3 d3, .slice B4 m4 d4] (g := w.heap.size + 1) (by simp)
  have HX := hide (((Ext.refl w).alloc (.cells #[.slice A1 m1 c1, .slice A2 m2 c2, .slice A3 m3 c3, .slice A4 m4 c4] obT)).alloc (.cells #[.slice B1 m1 d1, .slice B2 m2 d2, .slice B3 m3 d3, .slice B4 m4 d4] obT))
  clear hv hu
  go_enter Tryd.func11, Tryd.ntmps11
  go_upto_region 1 with fail
  generalize (w.alloc (.cells #[.slice A1 m1 c1, .slice A2 m2 c2, .slice A3 m3 c3, .slice A4 m4 c4] obT)).alloc (.cells #[.slice B1 m1 d1, .slice B2 m2 d2, .slice B3 m3 d3, .slice B4 m4 d4] obT) = W at *
  have HV1 := hide (HV.out.ext HX.out)
  have HU1 := hide (HU.out.ext HX.out)
  generalize w.heap.size = g1 at *
  have p0 : W.cell? ⟨g1, 0, none⟩ = some (.slice A1 m1 c1) := hb1.cell 0
  have p1 : W.cell? ⟨g1, 1, none⟩ = some (.slice A2 m2 c2) := hb1.cell 1
  have p2 : W.cell? ⟨g1, 2, none⟩ = some (.slice A3 m3 c3) := hb1.cell 2
  have p3 : W.cell? ⟨g1, 3, none⟩ = some (.slice A4 m4 c4) := hb1.cell 3
  have q0 : W.cell? ⟨g1 + 1, 0, none⟩ = some (.slice B1 m1 d1) := hb2.cell 0
  have q1 : W.cell? ⟨g1 + 1, 1, none⟩ = some (.slice B2 m2 d2) := hb2.cell 1
  have q2 : W.cell? ⟨g1 + 1, 2, none⟩ = some (.slice B3 m3 d3) := hb2.cell 2
  have q3 : W.cell? ⟨g1 + 1, 3, none⟩ = some (.slice B4 m4 d4) := hb2.cell 3
  clear hb1 hb2 HV HU
  go_wp2_with fail
  refine (equal_u32 A1 m1 c1 W.heap.size o.code B1 d1 W.heap.size W HV1.out.code HU1.out.code b1).mono ?_
  rintro e w1 ⟨rfl, d, rfl⟩
  have HX1 := hide ((Ext.refl W).drewN d)
  have HX2 := hide (HX.out.drewN d)
  clear p0 q0 HX
  generalize W.drewN d = w1 at *
  have p1' := HX1.out.cell p1
  have q1' := HX1.out.cell q1
  have p2' := HX1.out.cell p2
  have q2' := HX1.out.cell q2
  have p3' := HX1.out.cell p3
  have q3' := HX1.out.cell q3
  have HV2 := hide (HV1.out.ext HX1.out)
  have HU2 := hide (HU1.out.ext HX1.out)
  have hcv := conv_str' (P := Tryd.prog) (src := 36) (dst := 9) Tryd.underlying36 Tryd.underlying5 Tryd.underlying9 HV2.out.data c2
  have hcu := conv_str' (P := Tryd.prog) (src := 36) (dst := 9) Tryd.underlying36 Tryd.underlying5 Tryd.underlying9 HU2.out.data d2
  dsimp only at hcv hcu
  clear p1 p2 p3 q1 q2 q3 HV1 HU1 HX1
  generalize str o.data = sd at *
  go_wp2_with fail
  clear hcv hcu
  refine (equal_nm A3 m3 c3 w1.heap.size o.names B3 d3 w1.heap.size w1 HV2.out.names HU2.out.names b3).mono ?_
  rintro e w2 ⟨rfl, d', rfl⟩
  have HX3 := hide ((Ext.refl w1).drewN d')
  have HX4 := hide (HX2.out.drewN d')
  clear p1' q1' p2' q2' HX2
  generalize w1.drewN d' = w2 at *
  have p3 := HX3.out.cell p3'
  have q3 := HX3.out.cell q3'
  have HV3 := hide (HV2.out.ext HX3.out)
  have HU3 := hide (HU2.out.ext HX3.out)
  clear p3' q3' HV2 HU2 HX3
  go_wp2_with fail
  refine (equal_ne A4 m4 c4 w2.heap.size o.needs B4 d4 w2.heap.size w2 HV3.out.needs HU3.out.needs b4).mono ?_
  rintro e w3 ⟨rfl, d'', rfl⟩
  go_wp2_with fail
  go_ret
  exact ⟨rfl, HX4.out.drewN d''⟩
end Go.Proofs.YtljlniehbenefaaDoor
