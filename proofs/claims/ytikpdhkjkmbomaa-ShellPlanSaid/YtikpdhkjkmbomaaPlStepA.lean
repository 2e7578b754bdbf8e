/- Contracts of (*world).step (printed by gen_step.py). -/
import Derived.Test.YtikpdhkjkmbomaaPlStepH
namespace Go.Proofs.Ytikpdhkjkmbomaa
open Go.RowKit Go.Maps
set_option linter.unusedVariables false

set_option maxHeartbeats 8000000 in
set_option maxRecDepth 100000 in
theorem step_wait (w0 wb w : World) (be gw K N E i : Nat) (d : WT) (ms : List Nat) (Af Ae : Option Addr) (cf ce : Nat) (f : FdT) (a b c : Int) (name : BsI) (h : WAt w0 wb be gw K N E d ms Af cf Ae ce w) (hi : i < N) (hne : (i : Int) ∉ d.execs) (hf : d.fds[i]? = some f) (hN : N ≤ 20) (hE : E ≤ 20) (hK : K ≤ 100000) (hi0 : i = 0) (hW : d.waits ≤ 1000) :
    Calls Try.prog 8 #[.pointer (some ⟨gw, 0, none⟩), .agg #[.int .i64 (i : Int), .int .i64 4, .int .i64 a, .int .i64 b, .int .i64 c, .string (str name), .string ⟨#[]⟩, .slice none 0 0]] w (StOut w0 wb be gw K { d with waits := d.waits + 1 }) := by
  have hx0 := (Ext.refl w).alloc (.cells #[.int .i64 (i : Int), .int .i64 4, .int .i64 a, .int .i64 b, .int .i64 c, .string (str name), .string ⟨#[]⟩, .slice none 0 0] stT)
  have hb0 := Blk.new w stT #[.int .i64 (i : Int), .int .i64 4, .int .i64 a, .int .i64 b, .int .i64 c, .string (str name), .string ⟨#[]⟩, .slice none 0 0]
  have h1 := h.to hx0
  have hid : i < d.fds.length := by rw [h.lf]; exact hi
  have him : i < ms.length := by rw [h.lm]; exact hi
  obtain ⟨b5, hb5⟩ : ∃ b5, ms[i] = b5 := ⟨_, rfl⟩
  have hfd : FdAt (w.alloc (.cells #[.int .i64 (i : Int), .int .i64 4, .int .i64 a, .int .i64 b, .int .i64 c, .string (str name), .string ⟨#[]⟩, .slice none 0 0] stT)) b5 K f := by
    have := h1.each i him hid
    rw [hb5] at this
    rwa [show d.fds[i] = f by rw [List.getElem?_eq_getElem hid] at hf; injection hf] at this
  obtain ⟨gf, rfl, -⟩ := own_addr h1.rowF (by omega)
  have q5 := (own_cell h1.rowF i (u := .map (some b5)) (by rw [mapsV, List.getElem?_map, List.getElem?_eq_getElem him, hb5]; rfl)).1
  have HB5 := hide (show ∃ h : i < ms.length, ms[i] = b5 from ⟨him, hb5⟩)
  have HCT := hide (fun W (hW : Ext (w.alloc (.cells #[.int .i64 (i : Int), .int .i64 4, .int .i64 a, .int .i64 b, .int .i64 c, .string (str name), .string ⟨#[]⟩, .slice none 0 0] stT)) W) => cont_not Ae E ce _ d.execs (i : Int) W (hW.reads (Reads.of_own h1.rowE) (Nat.le_refl _)) (by simp only [maxLen]; omega) hne)
  have H1 := hide h1
  have HFD := hide hfd
  have HI0 := hide hi0
  clear hi0
  clear h h1 hx0 hne hf hid him hb5 hfd
  go_enter Try.func8, Try.ntmps8
  go_upto_region 1 with fail
  generalize w.alloc (.cells #[.int .i64 (i : Int), .int .i64 4, .int .i64 a, .int .i64 b, .int .i64 c, .string (str name), .string ⟨#[]⟩, .slice none 0 0] stT) = W at *
  generalize w.heap.size = gs at *
  have p0 : W.cell? ⟨gs, 0, none⟩ = some (.int .i64 (i : Int)) := hb0.cell 0
  have p1 : W.cell? ⟨gs, 1, none⟩ = some (.int .i64 4) := hb0.cell 1
  have p2 : W.cell? ⟨gs, 2, none⟩ = some (.int .i64 a) := hb0.cell 2
  have p3 : W.cell? ⟨gs, 3, none⟩ = some (.int .i64 b) := hb0.cell 3
  have p4 : W.cell? ⟨gs, 4, none⟩ = some (.int .i64 c) := hb0.cell 4
  have p5 : W.cell? ⟨gs, 5, none⟩ = some (.string (str name)) := hb0.cell 5
  have p6 : W.cell? ⟨gs, 6, none⟩ = some (.string ⟨#[]⟩) := hb0.cell 6
  have p7 : W.cell? ⟨gs, 7, none⟩ = some (.slice none 0 0) := hb0.cell 7
  have HBS := hide hb0
  have q0 : W.cell? ⟨gw, 0, none⟩ = some (.slice (some ⟨gf, 0, none⟩) N cf) := H1.out.box.cell 0
  have q2 : W.cell? ⟨gw, 2, none⟩ = some (.slice Ae E ce) := H1.out.box.cell 2
  have t1 : decide ((i : Int) < 0) = false := decide_eq_false (by omega)
  have t2 : decide ((N : Int) ≤ (i : Int)) = false := decide_eq_false (by omega)
  have t3 : decide (N ≤ i) = false := decide_eq_false (by omega)
  have t4 : (0 : Int) ≤ (i : Int) := by omega
  have t5 : (i : Int) < (N : Int) := by omega
  clear hb0
  go_quiet ((go_at_call 14; exact quiet_left (HCT.out _ ((Ext.refl _).drewN _))))
  have HXQ := hide ((Ext.refl W).drewN nq)
  have H2 := hide (H1.out.to HXQ.out)
  have HBS2 := hide (HBS.out.ext HXQ.out)
  have HFD2 := hide (HFD.out.ext HXQ.out)
  replace p0 := HXQ.out.cell p0
  replace p1 := HXQ.out.cell p1
  replace p2 := HXQ.out.cell p2
  replace p3 := HXQ.out.cell p3
  replace p4 := HXQ.out.cell p4
  replace p5 := HXQ.out.cell p5
  replace p6 := HXQ.out.cell p6
  replace p7 := HXQ.out.cell p7
  replace q0 := HXQ.out.cell q0
  replace q2 := HXQ.out.cell q2
  replace q5 := HXQ.out.cell q5
  generalize W.drewN nq = W2 at *
  clear HCT H1 HBS HFD HXQ
  go_upto_region 3 with fail
  go_region_held3 (fun w' => w'.cell? ⟨gs, 0, none⟩ = some (.int .i64 (i : Int)) ∧ w'.cell? ⟨gs, 1, none⟩ = some (.int .i64 4) ∧ w'.cell? ⟨gs, 2, none⟩ = some (.int .i64 a) ∧ w'.cell? ⟨gs, 3, none⟩ = some (.int .i64 b) ∧ w'.cell? ⟨gs, 4, none⟩ = some (.int .i64 c) ∧ w'.cell? ⟨gs, 5, none⟩ = some (.string (str name)) ∧ w'.cell? ⟨gs, 6, none⟩ = some (.string ⟨#[]⟩) ∧ w'.cell? ⟨gs, 7, none⟩ = some (.slice none 0 0) ∧ w'.cell? ⟨gw, 0, none⟩ = some (.slice (some ⟨gf, 0, none⟩) N cf) ∧ w'.cell? ⟨gf, i, none⟩ = some (.map (some b5)))
    (first | exact ⟨p0, p1, p2, p3, p4, p5, p6, p7, q0, q5⟩ | (refine ⟨Ext.cell (w := W2) ?_ p0, Ext.cell (w := W2) ?_ p1, Ext.cell (w := W2) ?_ p2, Ext.cell (w := W2) ?_ p3, Ext.cell (w := W2) ?_ p4, Ext.cell (w := W2) ?_ p5, Ext.cell (w := W2) ?_ p6, Ext.cell (w := W2) ?_ p7, Ext.cell (w := W2) ?_ q0, Ext.cell (w := W2) ?_ q5⟩ <;> ((repeat (first | with_reducible exact Ext.refl _ | with_reducible assumption | with_reducible refine Ext.alloc ?_ _ | with_reducible refine Ext.drew ?_ | with_reducible refine Ext.drewN ?_ _ | with_reducible refine Ext.setCell ?_ (by first | exact Nat.le_refl _ | assumption | (simp; done) | omega) _ | with_reducible refine Ext.trans ?_ (by with_reducible assumption))); done)) | fail)
    (fail)
  have hxa := ((Ext.refl W2).alloc (.cells #[.int .i64 4, .int .i64 a, .int .i64 b, .int .i64 c, .string (str name), .string ⟨#[]⟩, .slice none 0 0] caT)).drew
  have hbc := (Blk.new W2 caT #[.int .i64 4, .int .i64 a, .int .i64 b, .int .i64 c, .string (str name), .string ⟨#[]⟩, .slice none 0 0]).drew
  have H3 := hide (H2.out.to hxa)
  have HBS3 := hide (HBS2.out.ext hxa)
  have HFD3 := hide (HFD2.out.ext hxa)
  generalize (W2.alloc (.cells #[.int .i64 4, .int .i64 a, .int .i64 b, .int .i64 c, .string (str name), .string ⟨#[]⟩, .slice none 0 0] caT)).drew = W3 at *
  generalize W2.heap.size = gc at *
  have HBC := hide hbc
  have HSC := hide (show gs ≠ gc from Blk.ne_ HBS3.out HBC.out (by decide))
  have HWS := hide (show gw ≠ gs from Blk.ne_ H3.out.box HBS3.out (by decide))
  have HWC := hide (show gw ≠ gc from Blk.ne_ H3.out.box HBC.out (by decide))
  have p0 : W3.cell? ⟨gs, 0, none⟩ = some (.int .i64 (i : Int)) := HBS3.out.cell 0
  have c0 : W3.cell? ⟨gc, 0, none⟩ = some (.int .i64 4) := HBC.out.cell 0
  have c1 : W3.cell? ⟨gc, 1, none⟩ = some (.int .i64 a) := HBC.out.cell 1
  have c2 : W3.cell? ⟨gc, 2, none⟩ = some (.int .i64 b) := HBC.out.cell 2
  have c4 : W3.cell? ⟨gc, 4, none⟩ = some (.string (str name)) := HBC.out.cell 4
  have q0 : W3.cell? ⟨gw, 0, none⟩ = some (.slice (some ⟨gf, 0, none⟩) N cf) := H3.out.box.cell 0
  have q1 : W3.cell? ⟨gw, 1, none⟩ = some (.int .i64 (d.pipes : Int)) := H3.out.box.cell 1
  have q2 : W3.cell? ⟨gw, 2, none⟩ = some (.slice Ae E ce) := H3.out.box.cell 2
  have q3 : W3.cell? ⟨gw, 3, none⟩ = some (.int .i64 (d.waits : Int)) := H3.out.box.cell 3
  have f0 := H3.out.box.frozen 0
  have f1 := H3.out.box.frozen 1
  have f2 := H3.out.box.frozen 2
  have f3 := H3.out.box.frozen 3
  clear hbc hxa H2 HBS2 HFD2 q5 p1 p2 p3 p4 p5 p6 p7
  have HN := hide (H3.out.cell 3 (.int .i64 ((d.waits + 1 : Nat) : Int)) (d' := { d with waits := d.waits + 1 }) rfl rfl rfl)
  have r0 := far1 (g := gw) (i := 3) p0 HWS.out (.int .i64 ((d.waits : Int) + 1))
  have t6 : ((i : Int) == 0) = true := by rw [HI0.out]; rfl
  have t7 : decide ((i : Int) = 0) = true := decide_eq_true (by rw [HI0.out]; rfl)
  go_wp2_with fail
  go_ret
  exact ⟨rfl, N, E, ms, _, cf, Ae, ce, HN.out⟩
set_option maxHeartbeats 8000000 in
set_option maxRecDepth 100000 in
theorem step_close (w0 wb w : World) (be gw K N E i : Nat) (d : WT) (ms : List Nat) (Af Ae : Option Addr) (cf ce : Nat) (f : FdT) (a b c : Int) (name : BsI) (h : WAt w0 wb be gw K N E d ms Af cf Ae ce w) (hi : i < N) (hne : (i : Int) ∉ d.execs) (hf : d.fds[i]? = some f) (hN : N ≤ 20) (hE : E ≤ 20) (hK : K ≤ 100000) (ha0 : 0 ≤ a) (ha8 : a < 8) (hat : atT f a ≠ .no) :
    Calls Try.prog 8 #[.pointer (some ⟨gw, 0, none⟩), .agg #[.int .i64 (i : Int), .int .i64 6, .int .i64 a, .int .i64 b, .int .i64 c, .string (str name), .string ⟨#[]⟩, .slice none 0 0]] w (StOut w0 wb be gw K { d with fds := d.fds.set i (f.set a.toNat .no) }) := by
  have hx0 := (Ext.refl w).alloc (.cells #[.int .i64 (i : Int), .int .i64 6, .int .i64 a, .int .i64 b, .int .i64 c, .string (str name), .string ⟨#[]⟩, .slice none 0 0] stT)
  have hb0 := Blk.new w stT #[.int .i64 (i : Int), .int .i64 6, .int .i64 a, .int .i64 b, .int .i64 c, .string (str name), .string ⟨#[]⟩, .slice none 0 0]
  have h1 := h.to hx0
  have hid : i < d.fds.length := by rw [h.lf]; exact hi
  have him : i < ms.length := by rw [h.lm]; exact hi
  obtain ⟨b5, hb5⟩ : ∃ b5, ms[i] = b5 := ⟨_, rfl⟩
  have hfd : FdAt (w.alloc (.cells #[.int .i64 (i : Int), .int .i64 6, .int .i64 a, .int .i64 b, .int .i64 c, .string (str name), .string ⟨#[]⟩, .slice none 0 0] stT)) b5 K f := by
    have := h1.each i him hid
    rw [hb5] at this
    rwa [show d.fds[i] = f by rw [List.getElem?_eq_getElem hid] at hf; injection hf] at this
  obtain ⟨gf, rfl, -⟩ := own_addr h1.rowF (by omega)
  have q5 := (own_cell h1.rowF i (u := .map (some b5)) (by rw [mapsV, List.getElem?_map, List.getElem?_eq_getElem him, hb5]; rfl)).1
  have HB5 := hide (show ∃ h : i < ms.length, ms[i] = b5 from ⟨him, hb5⟩)
  have HCT := hide (fun W (hW : Ext (w.alloc (.cells #[.int .i64 (i : Int), .int .i64 6, .int .i64 a, .int .i64 b, .int .i64 c, .string (str name), .string ⟨#[]⟩, .slice none 0 0] stT)) W) => cont_not Ae E ce _ d.execs (i : Int) W (hW.reads (Reads.of_own h1.rowE) (Nat.le_refl _)) (by simp only [maxLen]; omega) hne)
  have H1 := hide h1
  have HFD := hide hfd
  have HAT := hide hat
  clear hat
  clear h h1 hx0 hne hf hid him hb5 hfd
  go_enter Try.func8, Try.ntmps8
  go_upto_region 1 with fail
  generalize w.alloc (.cells #[.int .i64 (i : Int), .int .i64 6, .int .i64 a, .int .i64 b, .int .i64 c, .string (str name), .string ⟨#[]⟩, .slice none 0 0] stT) = W at *
  generalize w.heap.size = gs at *
  have p0 : W.cell? ⟨gs, 0, none⟩ = some (.int .i64 (i : Int)) := hb0.cell 0
  have p1 : W.cell? ⟨gs, 1, none⟩ = some (.int .i64 6) := hb0.cell 1
  have p2 : W.cell? ⟨gs, 2, none⟩ = some (.int .i64 a) := hb0.cell 2
  have p3 : W.cell? ⟨gs, 3, none⟩ = some (.int .i64 b) := hb0.cell 3
  have p4 : W.cell? ⟨gs, 4, none⟩ = some (.int .i64 c) := hb0.cell 4
  have p5 : W.cell? ⟨gs, 5, none⟩ = some (.string (str name)) := hb0.cell 5
  have p6 : W.cell? ⟨gs, 6, none⟩ = some (.string ⟨#[]⟩) := hb0.cell 6
  have p7 : W.cell? ⟨gs, 7, none⟩ = some (.slice none 0 0) := hb0.cell 7
  have HBS := hide hb0
  have q0 : W.cell? ⟨gw, 0, none⟩ = some (.slice (some ⟨gf, 0, none⟩) N cf) := H1.out.box.cell 0
  have q2 : W.cell? ⟨gw, 2, none⟩ = some (.slice Ae E ce) := H1.out.box.cell 2
  have t1 : decide ((i : Int) < 0) = false := decide_eq_false (by omega)
  have t2 : decide ((N : Int) ≤ (i : Int)) = false := decide_eq_false (by omega)
  have t3 : decide (N ≤ i) = false := decide_eq_false (by omega)
  have t4 : (0 : Int) ≤ (i : Int) := by omega
  have t5 : (i : Int) < (N : Int) := by omega
  clear hb0
  go_quiet ((go_at_call 14; exact quiet_left (HCT.out _ ((Ext.refl _).drewN _))))
  have HXQ := hide ((Ext.refl W).drewN nq)
  have H2 := hide (H1.out.to HXQ.out)
  have HBS2 := hide (HBS.out.ext HXQ.out)
  have HFD2 := hide (HFD.out.ext HXQ.out)
  replace p0 := HXQ.out.cell p0
  replace p1 := HXQ.out.cell p1
  replace p2 := HXQ.out.cell p2
  replace p3 := HXQ.out.cell p3
  replace p4 := HXQ.out.cell p4
  replace p5 := HXQ.out.cell p5
  replace p6 := HXQ.out.cell p6
  replace p7 := HXQ.out.cell p7
  replace q0 := HXQ.out.cell q0
  replace q2 := HXQ.out.cell q2
  replace q5 := HXQ.out.cell q5
  generalize W.drewN nq = W2 at *
  clear HCT H1 HBS HFD HXQ
  go_upto_region 3 with fail
  go_region_held3 (fun w' => w'.cell? ⟨gs, 0, none⟩ = some (.int .i64 (i : Int)) ∧ w'.cell? ⟨gs, 1, none⟩ = some (.int .i64 6) ∧ w'.cell? ⟨gs, 2, none⟩ = some (.int .i64 a) ∧ w'.cell? ⟨gs, 3, none⟩ = some (.int .i64 b) ∧ w'.cell? ⟨gs, 4, none⟩ = some (.int .i64 c) ∧ w'.cell? ⟨gs, 5, none⟩ = some (.string (str name)) ∧ w'.cell? ⟨gs, 6, none⟩ = some (.string ⟨#[]⟩) ∧ w'.cell? ⟨gs, 7, none⟩ = some (.slice none 0 0) ∧ w'.cell? ⟨gw, 0, none⟩ = some (.slice (some ⟨gf, 0, none⟩) N cf) ∧ w'.cell? ⟨gf, i, none⟩ = some (.map (some b5)))
    (first | exact ⟨p0, p1, p2, p3, p4, p5, p6, p7, q0, q5⟩ | (refine ⟨Ext.cell (w := W2) ?_ p0, Ext.cell (w := W2) ?_ p1, Ext.cell (w := W2) ?_ p2, Ext.cell (w := W2) ?_ p3, Ext.cell (w := W2) ?_ p4, Ext.cell (w := W2) ?_ p5, Ext.cell (w := W2) ?_ p6, Ext.cell (w := W2) ?_ p7, Ext.cell (w := W2) ?_ q0, Ext.cell (w := W2) ?_ q5⟩ <;> ((repeat (first | with_reducible exact Ext.refl _ | with_reducible assumption | with_reducible refine Ext.alloc ?_ _ | with_reducible refine Ext.drew ?_ | with_reducible refine Ext.drewN ?_ _ | with_reducible refine Ext.setCell ?_ (by first | exact Nat.le_refl _ | assumption | (simp; done) | omega) _ | with_reducible refine Ext.trans ?_ (by with_reducible assumption))); done)) | fail)
    (fail)
  have hxa := ((Ext.refl W2).alloc (.cells #[.int .i64 6, .int .i64 a, .int .i64 b, .int .i64 c, .string (str name), .string ⟨#[]⟩, .slice none 0 0] caT)).drew
  have hbc := (Blk.new W2 caT #[.int .i64 6, .int .i64 a, .int .i64 b, .int .i64 c, .string (str name), .string ⟨#[]⟩, .slice none 0 0]).drew
  have H3 := hide (H2.out.to hxa)
  have HBS3 := hide (HBS2.out.ext hxa)
  have HFD3 := hide (HFD2.out.ext hxa)
  generalize (W2.alloc (.cells #[.int .i64 6, .int .i64 a, .int .i64 b, .int .i64 c, .string (str name), .string ⟨#[]⟩, .slice none 0 0] caT)).drew = W3 at *
  generalize W2.heap.size = gc at *
  have HBC := hide hbc
  have HSC := hide (show gs ≠ gc from Blk.ne_ HBS3.out HBC.out (by decide))
  have HWS := hide (show gw ≠ gs from Blk.ne_ H3.out.box HBS3.out (by decide))
  have HWC := hide (show gw ≠ gc from Blk.ne_ H3.out.box HBC.out (by decide))
  have p0 : W3.cell? ⟨gs, 0, none⟩ = some (.int .i64 (i : Int)) := HBS3.out.cell 0
  have c0 : W3.cell? ⟨gc, 0, none⟩ = some (.int .i64 6) := HBC.out.cell 0
  have c1 : W3.cell? ⟨gc, 1, none⟩ = some (.int .i64 a) := HBC.out.cell 1
  have c2 : W3.cell? ⟨gc, 2, none⟩ = some (.int .i64 b) := HBC.out.cell 2
  have c4 : W3.cell? ⟨gc, 4, none⟩ = some (.string (str name)) := HBC.out.cell 4
  have q0 : W3.cell? ⟨gw, 0, none⟩ = some (.slice (some ⟨gf, 0, none⟩) N cf) := H3.out.box.cell 0
  have q1 : W3.cell? ⟨gw, 1, none⟩ = some (.int .i64 (d.pipes : Int)) := H3.out.box.cell 1
  have q2 : W3.cell? ⟨gw, 2, none⟩ = some (.slice Ae E ce) := H3.out.box.cell 2
  have q3 : W3.cell? ⟨gw, 3, none⟩ = some (.int .i64 (d.waits : Int)) := H3.out.box.cell 3
  have f0 := H3.out.box.frozen 0
  have f1 := H3.out.box.frozen 1
  have f2 := H3.out.box.frozen 2
  have f3 := H3.out.box.frozen 3
  clear hbc hxa H2 HBS2 HFD2 q5 p1 p2 p3 p4 p5 p6 p7
  have hlk := HFD3.out.look a (by omega) (by omega)
  have t6 := str_nil_ne (fun e => HAT.out ((tokS_nil _).1 e))
  obtain ⟨W4, hdel, hm4, hg4⟩ := HFD3.out.delI a ha0 ha8 0
  obtain ⟨him, hb5⟩ := HB5.out
  have HN := hide (H3.out.turn i him (Nat.le_refl K) (f := f.set a.toNat .no) (by rw [hb5]; exact hm4) (by rw [hb5]; exact hg4))
  have hlen := fun ty => hm4.lenI ty
  have hct := hm4.cnt
  generalize cntT (f.set a.toNat .no) = ct at *
  generalize tokS (atT f a) = X at *
  have t7 : decide ((ct : Int) ≤ 8) = true := decide_eq_true (by omega)
  clear hm4 hg4 hb5
  go_wp2_with fail
  go_ret
  exact ⟨rfl, N, E, ms, _, cf, Ae, ce, HN.out⟩
set_option maxHeartbeats 8000000 in
set_option maxRecDepth 100000 in
theorem step_dup (w0 wb w : World) (be gw K N E i : Nat) (d : WT) (ms : List Nat) (Af Ae : Option Addr) (cf ce : Nat) (f : FdT) (a b c : Int) (name : BsI) (h : WAt w0 wb be gw K N E d ms Af cf Ae ce w) (hi : i < N) (hne : (i : Int) ∉ d.execs) (hf : d.fds[i]? = some f) (hN : N ≤ 20) (hE : E ≤ 20) (hK : K ≤ 100000) (ha0 : 0 ≤ a) (ha8 : a < 8) (hb0' : 0 ≤ b) (hb8 : b < 8) (hat : atT f a ≠ .no) :
    Calls Try.prog 8 #[.pointer (some ⟨gw, 0, none⟩), .agg #[.int .i64 (i : Int), .int .i64 11, .int .i64 a, .int .i64 b, .int .i64 c, .string (str name), .string ⟨#[]⟩, .slice none 0 0]] w (StOut w0 wb be gw (K + 1) { d with fds := d.fds.set i (f.set b.toNat (atT f a)) }) := by
  have hx0 := (Ext.refl w).alloc (.cells #[.int .i64 (i : Int), .int .i64 11, .int .i64 a, .int .i64 b, .int .i64 c, .string (str name), .string ⟨#[]⟩, .slice none 0 0] stT)
  have hb0 := Blk.new w stT #[.int .i64 (i : Int), .int .i64 11, .int .i64 a, .int .i64 b, .int .i64 c, .string (str name), .string ⟨#[]⟩, .slice none 0 0]
  have h1 := h.to hx0
  have hid : i < d.fds.length := by rw [h.lf]; exact hi
  have him : i < ms.length := by rw [h.lm]; exact hi
  obtain ⟨b5, hb5⟩ : ∃ b5, ms[i] = b5 := ⟨_, rfl⟩
  have hfd : FdAt (w.alloc (.cells #[.int .i64 (i : Int), .int .i64 11, .int .i64 a, .int .i64 b, .int .i64 c, .string (str name), .string ⟨#[]⟩, .slice none 0 0] stT)) b5 K f := by
    have := h1.each i him hid
    rw [hb5] at this
    rwa [show d.fds[i] = f by rw [List.getElem?_eq_getElem hid] at hf; injection hf] at this
  obtain ⟨gf, rfl, -⟩ := own_addr h1.rowF (by omega)
  have q5 := (own_cell h1.rowF i (u := .map (some b5)) (by rw [mapsV, List.getElem?_map, List.getElem?_eq_getElem him, hb5]; rfl)).1
  have HB5 := hide (show ∃ h : i < ms.length, ms[i] = b5 from ⟨him, hb5⟩)
  have HCT := hide (fun W (hW : Ext (w.alloc (.cells #[.int .i64 (i : Int), .int .i64 11, .int .i64 a, .int .i64 b, .int .i64 c, .string (str name), .string ⟨#[]⟩, .slice none 0 0] stT)) W) => cont_not Ae E ce _ d.execs (i : Int) W (hW.reads (Reads.of_own h1.rowE) (Nat.le_refl _)) (by simp only [maxLen]; omega) hne)
  have H1 := hide h1
  have HFD := hide hfd
  have HAT := hide hat
  clear hat
  clear h h1 hx0 hne hf hid him hb5 hfd
  go_enter Try.func8, Try.ntmps8
  go_upto_region 1 with fail
  generalize w.alloc (.cells #[.int .i64 (i : Int), .int .i64 11, .int .i64 a, .int .i64 b, .int .i64 c, .string (str name), .string ⟨#[]⟩, .slice none 0 0] stT) = W at *
  generalize w.heap.size = gs at *
  have p0 : W.cell? ⟨gs, 0, none⟩ = some (.int .i64 (i : Int)) := hb0.cell 0
  have p1 : W.cell? ⟨gs, 1, none⟩ = some (.int .i64 11) := hb0.cell 1
  have p2 : W.cell? ⟨gs, 2, none⟩ = some (.int .i64 a) := hb0.cell 2
  have p3 : W.cell? ⟨gs, 3, none⟩ = some (.int .i64 b) := hb0.cell 3
  have p4 : W.cell? ⟨gs, 4, none⟩ = some (.int .i64 c) := hb0.cell 4
  have p5 : W.cell? ⟨gs, 5, none⟩ = some (.string (str name)) := hb0.cell 5
  have p6 : W.cell? ⟨gs, 6, none⟩ = some (.string ⟨#[]⟩) := hb0.cell 6
  have p7 : W.cell? ⟨gs, 7, none⟩ = some (.slice none 0 0) := hb0.cell 7
  have HBS := hide hb0
  have q0 : W.cell? ⟨gw, 0, none⟩ = some (.slice (some ⟨gf, 0, none⟩) N cf) := H1.out.box.cell 0
  have q2 : W.cell? ⟨gw, 2, none⟩ = some (.slice Ae E ce) := H1.out.box.cell 2
  have t1 : decide ((i : Int) < 0) = false := decide_eq_false (by omega)
  have t2 : decide ((N : Int) ≤ (i : Int)) = false := decide_eq_false (by omega)
  have t3 : decide (N ≤ i) = false := decide_eq_false (by omega)
  have t4 : (0 : Int) ≤ (i : Int) := by omega
  have t5 : (i : Int) < (N : Int) := by omega
  clear hb0
  go_quiet ((go_at_call 14; exact quiet_left (HCT.out _ ((Ext.refl _).drewN _))))
  have HXQ := hide ((Ext.refl W).drewN nq)
  have H2 := hide (H1.out.to HXQ.out)
  have HBS2 := hide (HBS.out.ext HXQ.out)
  have HFD2 := hide (HFD.out.ext HXQ.out)
  replace p0 := HXQ.out.cell p0
  replace p1 := HXQ.out.cell p1
  replace p2 := HXQ.out.cell p2
  replace p3 := HXQ.out.cell p3
  replace p4 := HXQ.out.cell p4
  replace p5 := HXQ.out.cell p5
  replace p6 := HXQ.out.cell p6
  replace p7 := HXQ.out.cell p7
  replace q0 := HXQ.out.cell q0
  replace q2 := HXQ.out.cell q2
  replace q5 := HXQ.out.cell q5
  generalize W.drewN nq = W2 at *
  clear HCT H1 HBS HFD HXQ
  go_upto_region 3 with fail
  go_region_held3 (fun w' => w'.cell? ⟨gs, 0, none⟩ = some (.int .i64 (i : Int)) ∧ w'.cell? ⟨gs, 1, none⟩ = some (.int .i64 11) ∧ w'.cell? ⟨gs, 2, none⟩ = some (.int .i64 a) ∧ w'.cell? ⟨gs, 3, none⟩ = some (.int .i64 b) ∧ w'.cell? ⟨gs, 4, none⟩ = some (.int .i64 c) ∧ w'.cell? ⟨gs, 5, none⟩ = some (.string (str name)) ∧ w'.cell? ⟨gs, 6, none⟩ = some (.string ⟨#[]⟩) ∧ w'.cell? ⟨gs, 7, none⟩ = some (.slice none 0 0) ∧ w'.cell? ⟨gw, 0, none⟩ = some (.slice (some ⟨gf, 0, none⟩) N cf) ∧ w'.cell? ⟨gf, i, none⟩ = some (.map (some b5)))
    (first | exact ⟨p0, p1, p2, p3, p4, p5, p6, p7, q0, q5⟩ | (refine ⟨Ext.cell (w := W2) ?_ p0, Ext.cell (w := W2) ?_ p1, Ext.cell (w := W2) ?_ p2, Ext.cell (w := W2) ?_ p3, Ext.cell (w := W2) ?_ p4, Ext.cell (w := W2) ?_ p5, Ext.cell (w := W2) ?_ p6, Ext.cell (w := W2) ?_ p7, Ext.cell (w := W2) ?_ q0, Ext.cell (w := W2) ?_ q5⟩ <;> ((repeat (first | with_reducible exact Ext.refl _ | with_reducible assumption | with_reducible refine Ext.alloc ?_ _ | with_reducible refine Ext.drew ?_ | with_reducible refine Ext.drewN ?_ _ | with_reducible refine Ext.setCell ?_ (by first | exact Nat.le_refl _ | assumption | (simp; done) | omega) _ | with_reducible refine Ext.trans ?_ (by with_reducible assumption))); done)) | fail)
    (fail)
  have hxa := ((Ext.refl W2).alloc (.cells #[.int .i64 11, .int .i64 a, .int .i64 b, .int .i64 c, .string (str name), .string ⟨#[]⟩, .slice none 0 0] caT)).drew
  have hbc := (Blk.new W2 caT #[.int .i64 11, .int .i64 a, .int .i64 b, .int .i64 c, .string (str name), .string ⟨#[]⟩, .slice none 0 0]).drew
  have H3 := hide (H2.out.to hxa)
  have HBS3 := hide (HBS2.out.ext hxa)
  have HFD3 := hide (HFD2.out.ext hxa)
  generalize (W2.alloc (.cells #[.int .i64 11, .int .i64 a, .int .i64 b, .int .i64 c, .string (str name), .string ⟨#[]⟩, .slice none 0 0] caT)).drew = W3 at *
  generalize W2.heap.size = gc at *
  have HBC := hide hbc
  have HSC := hide (show gs ≠ gc from Blk.ne_ HBS3.out HBC.out (by decide))
  have HWS := hide (show gw ≠ gs from Blk.ne_ H3.out.box HBS3.out (by decide))
  have HWC := hide (show gw ≠ gc from Blk.ne_ H3.out.box HBC.out (by decide))
  have p0 : W3.cell? ⟨gs, 0, none⟩ = some (.int .i64 (i : Int)) := HBS3.out.cell 0
  have c0 : W3.cell? ⟨gc, 0, none⟩ = some (.int .i64 11) := HBC.out.cell 0
  have c1 : W3.cell? ⟨gc, 1, none⟩ = some (.int .i64 a) := HBC.out.cell 1
  have c2 : W3.cell? ⟨gc, 2, none⟩ = some (.int .i64 b) := HBC.out.cell 2
  have c4 : W3.cell? ⟨gc, 4, none⟩ = some (.string (str name)) := HBC.out.cell 4
  have q0 : W3.cell? ⟨gw, 0, none⟩ = some (.slice (some ⟨gf, 0, none⟩) N cf) := H3.out.box.cell 0
  have q1 : W3.cell? ⟨gw, 1, none⟩ = some (.int .i64 (d.pipes : Int)) := H3.out.box.cell 1
  have q2 : W3.cell? ⟨gw, 2, none⟩ = some (.slice Ae E ce) := H3.out.box.cell 2
  have q3 : W3.cell? ⟨gw, 3, none⟩ = some (.int .i64 (d.waits : Int)) := H3.out.box.cell 3
  have f0 := H3.out.box.frozen 0
  have f1 := H3.out.box.frozen 1
  have f2 := H3.out.box.frozen 2
  have f3 := H3.out.box.frozen 3
  clear hbc hxa H2 HBS2 HFD2 q5 p1 p2 p3 p4 p5 p6 p7
  have hlk := HFD3.out.look a (by omega) (by omega)
  have t6 := str_nil_ne (fun e => HAT.out ((tokS_nil _).1 e))
  obtain ⟨W4, hput, hm4, hg4⟩ := HFD3.out.putI (by simp only [maxLen]; omega) b hb0' hb8 (atT f a) HAT.out (tokS_len _)
  obtain ⟨him, hb5⟩ := HB5.out
  have HN := hide (H3.out.turn i him (Nat.le_succ K) (f := f.set b.toNat (atT f a)) (by rw [hb5]; exact hm4) (by rw [hb5]; exact hg4))
  have hlen := fun ty => hm4.lenI ty
  have hct := hm4.cnt
  generalize cntT (f.set b.toNat (atT f a)) = ct at *
  have t7 : decide ((ct : Int) ≤ 8) = true := decide_eq_true (by omega)
  have t8 : decide (b < 0) = false := decide_eq_false (by omega)
  have t9 : decide (8 ≤ b) = false := decide_eq_false (by omega)
  clear hm4 hg4 hb5
  generalize tokS (atT f a) = X at *
  go_wp2_with fail
  go_ret
  exact ⟨rfl, N, E, ms, _, cf, Ae, ce, HN.out⟩
set_option maxHeartbeats 8000000 in
set_option maxRecDepth 100000 in
theorem step_exec (w0 wb w : World) (be gw K N E i : Nat) (d : WT) (ms : List Nat) (Af Ae : Option Addr) (cf ce : Nat) (f : FdT) (a b c : Int) (name : BsI) (h : WAt w0 wb be gw K N E d ms Af cf Ae ce w) (hi : i < N) (hne : (i : Int) ∉ d.execs) (hf : d.fds[i]? = some f) (hN : N ≤ 20) (hE : E ≤ 20) (hK : K ≤ 100000) :
    Calls Try.prog 8 #[.pointer (some ⟨gw, 0, none⟩), .agg #[.int .i64 (i : Int), .int .i64 3, .int .i64 a, .int .i64 b, .int .i64 c, .string (str name), .string ⟨#[]⟩, .slice none 0 0]] w (StOut w0 wb be gw K { d with execs := d.execs ++ [(i : Int)] }) := by
  have hx0 := (Ext.refl w).alloc (.cells #[.int .i64 (i : Int), .int .i64 3, .int .i64 a, .int .i64 b, .int .i64 c, .string (str name), .string ⟨#[]⟩, .slice none 0 0] stT)
  have hb0 := Blk.new w stT #[.int .i64 (i : Int), .int .i64 3, .int .i64 a, .int .i64 b, .int .i64 c, .string (str name), .string ⟨#[]⟩, .slice none 0 0]
  have h1 := h.to hx0
  have hid : i < d.fds.length := by rw [h.lf]; exact hi
  have him : i < ms.length := by rw [h.lm]; exact hi
  obtain ⟨b5, hb5⟩ : ∃ b5, ms[i] = b5 := ⟨_, rfl⟩
  have hfd : FdAt (w.alloc (.cells #[.int .i64 (i : Int), .int .i64 3, .int .i64 a, .int .i64 b, .int .i64 c, .string (str name), .string ⟨#[]⟩, .slice none 0 0] stT)) b5 K f := by
    have := h1.each i him hid
    rw [hb5] at this
    rwa [show d.fds[i] = f by rw [List.getElem?_eq_getElem hid] at hf; injection hf] at this
  obtain ⟨gf, rfl, -⟩ := own_addr h1.rowF (by omega)
  have q5 := (own_cell h1.rowF i (u := .map (some b5)) (by rw [mapsV, List.getElem?_map, List.getElem?_eq_getElem him, hb5]; rfl)).1
  have HB5 := hide (show ∃ h : i < ms.length, ms[i] = b5 from ⟨him, hb5⟩)
  have HCT := hide (fun W (hW : Ext (w.alloc (.cells #[.int .i64 (i : Int), .int .i64 3, .int .i64 a, .int .i64 b, .int .i64 c, .string (str name), .string ⟨#[]⟩, .slice none 0 0] stT)) W) => cont_not Ae E ce _ d.execs (i : Int) W (hW.reads (Reads.of_own h1.rowE) (Nat.le_refl _)) (by simp only [maxLen]; omega) hne)
  have H1 := hide h1
  have HFD := hide hfd
  clear h h1 hx0 hne hf hid him hb5 hfd
  go_enter Try.func8, Try.ntmps8
  go_upto_region 1 with fail
  generalize w.alloc (.cells #[.int .i64 (i : Int), .int .i64 3, .int .i64 a, .int .i64 b, .int .i64 c, .string (str name), .string ⟨#[]⟩, .slice none 0 0] stT) = W at *
  generalize w.heap.size = gs at *
  have p0 : W.cell? ⟨gs, 0, none⟩ = some (.int .i64 (i : Int)) := hb0.cell 0
  have p1 : W.cell? ⟨gs, 1, none⟩ = some (.int .i64 3) := hb0.cell 1
  have p2 : W.cell? ⟨gs, 2, none⟩ = some (.int .i64 a) := hb0.cell 2
  have p3 : W.cell? ⟨gs, 3, none⟩ = some (.int .i64 b) := hb0.cell 3
  have p4 : W.cell? ⟨gs, 4, none⟩ = some (.int .i64 c) := hb0.cell 4
  have p5 : W.cell? ⟨gs, 5, none⟩ = some (.string (str name)) := hb0.cell 5
  have p6 : W.cell? ⟨gs, 6, none⟩ = some (.string ⟨#[]⟩) := hb0.cell 6
  have p7 : W.cell? ⟨gs, 7, none⟩ = some (.slice none 0 0) := hb0.cell 7
  have HBS := hide hb0
  have q0 : W.cell? ⟨gw, 0, none⟩ = some (.slice (some ⟨gf, 0, none⟩) N cf) := H1.out.box.cell 0
  have q2 : W.cell? ⟨gw, 2, none⟩ = some (.slice Ae E ce) := H1.out.box.cell 2
  have t1 : decide ((i : Int) < 0) = false := decide_eq_false (by omega)
  have t2 : decide ((N : Int) ≤ (i : Int)) = false := decide_eq_false (by omega)
  have t3 : decide (N ≤ i) = false := decide_eq_false (by omega)
  have t4 : (0 : Int) ≤ (i : Int) := by omega
  have t5 : (i : Int) < (N : Int) := by omega
  clear hb0
  go_quiet ((go_at_call 14; exact quiet_left (HCT.out _ ((Ext.refl _).drewN _))))
  have HXQ := hide ((Ext.refl W).drewN nq)
  have H2 := hide (H1.out.to HXQ.out)
  have HBS2 := hide (HBS.out.ext HXQ.out)
  have HFD2 := hide (HFD.out.ext HXQ.out)
  replace p0 := HXQ.out.cell p0
  replace p1 := HXQ.out.cell p1
  replace p2 := HXQ.out.cell p2
  replace p3 := HXQ.out.cell p3
  replace p4 := HXQ.out.cell p4
  replace p5 := HXQ.out.cell p5
  replace p6 := HXQ.out.cell p6
  replace p7 := HXQ.out.cell p7
  replace q0 := HXQ.out.cell q0
  replace q2 := HXQ.out.cell q2
  replace q5 := HXQ.out.cell q5
  generalize W.drewN nq = W2 at *
  clear HCT H1 HBS HFD HXQ
  go_upto_region 3 with fail
  go_region_held3 (fun w' => w'.cell? ⟨gs, 0, none⟩ = some (.int .i64 (i : Int)) ∧ w'.cell? ⟨gs, 1, none⟩ = some (.int .i64 3) ∧ w'.cell? ⟨gs, 2, none⟩ = some (.int .i64 a) ∧ w'.cell? ⟨gs, 3, none⟩ = some (.int .i64 b) ∧ w'.cell? ⟨gs, 4, none⟩ = some (.int .i64 c) ∧ w'.cell? ⟨gs, 5, none⟩ = some (.string (str name)) ∧ w'.cell? ⟨gs, 6, none⟩ = some (.string ⟨#[]⟩) ∧ w'.cell? ⟨gs, 7, none⟩ = some (.slice none 0 0) ∧ w'.cell? ⟨gw, 0, none⟩ = some (.slice (some ⟨gf, 0, none⟩) N cf) ∧ w'.cell? ⟨gf, i, none⟩ = some (.map (some b5)))
    (first | exact ⟨p0, p1, p2, p3, p4, p5, p6, p7, q0, q5⟩ | (refine ⟨Ext.cell (w := W2) ?_ p0, Ext.cell (w := W2) ?_ p1, Ext.cell (w := W2) ?_ p2, Ext.cell (w := W2) ?_ p3, Ext.cell (w := W2) ?_ p4, Ext.cell (w := W2) ?_ p5, Ext.cell (w := W2) ?_ p6, Ext.cell (w := W2) ?_ p7, Ext.cell (w := W2) ?_ q0, Ext.cell (w := W2) ?_ q5⟩ <;> ((repeat (first | with_reducible exact Ext.refl _ | with_reducible assumption | with_reducible refine Ext.alloc ?_ _ | with_reducible refine Ext.drew ?_ | with_reducible refine Ext.drewN ?_ _ | with_reducible refine Ext.setCell ?_ (by first | exact Nat.le_refl _ | assumption | (simp; done) | omega) _ | with_reducible refine Ext.trans ?_ (by with_reducible assumption))); done)) | fail)
    (fail)
  have hxa := ((Ext.refl W2).alloc (.cells #[.int .i64 3, .int .i64 a, .int .i64 b, .int .i64 c, .string (str name), .string ⟨#[]⟩, .slice none 0 0] caT)).drew
  have hbc := (Blk.new W2 caT #[.int .i64 3, .int .i64 a, .int .i64 b, .int .i64 c, .string (str name), .string ⟨#[]⟩, .slice none 0 0]).drew
  have H3 := hide (H2.out.to hxa)
  have HBS3 := hide (HBS2.out.ext hxa)
  have HFD3 := hide (HFD2.out.ext hxa)
  generalize (W2.alloc (.cells #[.int .i64 3, .int .i64 a, .int .i64 b, .int .i64 c, .string (str name), .string ⟨#[]⟩, .slice none 0 0] caT)).drew = W3 at *
  generalize W2.heap.size = gc at *
  have HBC := hide hbc
  have HSC := hide (show gs ≠ gc from Blk.ne_ HBS3.out HBC.out (by decide))
  have HWS := hide (show gw ≠ gs from Blk.ne_ H3.out.box HBS3.out (by decide))
  have HWC := hide (show gw ≠ gc from Blk.ne_ H3.out.box HBC.out (by decide))
  have p0 : W3.cell? ⟨gs, 0, none⟩ = some (.int .i64 (i : Int)) := HBS3.out.cell 0
  have c0 : W3.cell? ⟨gc, 0, none⟩ = some (.int .i64 3) := HBC.out.cell 0
  have c1 : W3.cell? ⟨gc, 1, none⟩ = some (.int .i64 a) := HBC.out.cell 1
  have c2 : W3.cell? ⟨gc, 2, none⟩ = some (.int .i64 b) := HBC.out.cell 2
  have c4 : W3.cell? ⟨gc, 4, none⟩ = some (.string (str name)) := HBC.out.cell 4
  have q0 : W3.cell? ⟨gw, 0, none⟩ = some (.slice (some ⟨gf, 0, none⟩) N cf) := H3.out.box.cell 0
  have q1 : W3.cell? ⟨gw, 1, none⟩ = some (.int .i64 (d.pipes : Int)) := H3.out.box.cell 1
  have q2 : W3.cell? ⟨gw, 2, none⟩ = some (.slice Ae E ce) := H3.out.box.cell 2
  have q3 : W3.cell? ⟨gw, 3, none⟩ = some (.int .i64 (d.waits : Int)) := H3.out.box.cell 3
  have f0 := H3.out.box.frozen 0
  have f1 := H3.out.box.frozen 1
  have f2 := H3.out.box.frozen 2
  have f3 := H3.out.box.frozen 3
  clear hbc hxa H2 HBS2 HFD2 q5 p1 p2 p3 p4 p5 p6 p7
  obtain ⟨i0, hi0, hz0, hz1, hz2⟩ := info_parts int_infoT
  go_upto_region 30 with fail
  refine wp_region_noPanic ?_
  have hxr := (Ext.refl W3).drew.alloc (.cells #[.int .i64 (i : Int)] 3)
  have HXR := hide hxr
  have H4 := hide (H3.out.to hxr)
  have HRW := hide ((Blk.new W3.drew 3 #[.int .i64 (i : Int)]).reads)
  have q2a : (W3.alloc (.cells #[.int .i64 (i : Int)] 3)).drew.cell? ⟨gw, 2, none⟩ = some (.slice Ae E ce) := H4.out.box.cell 2
  have q2b : (W3.drew.alloc (.cells #[.int .i64 (i : Int)] 3)).cell? ⟨gw, 2, none⟩ = some (.slice Ae E ce) := H4.out.box.cell 2
  clear hxr
  go_region_law ((refine step_append_any _ (by rfl) (.tmp 152) (.tmp 155) 29 (by rfl) be 3 i0 _ 1 8 Try.underlying29 hi0 hz0 hz1 hz2 rfl (by omega) (.slice Ae E ce) E (intsV d.execs) (by rfl) H4.out.rowE _ _ 1 1 [.int .i64 (i : Int)] (by rfl) HRW.out (by simp [Value.oneCell']) (by simp only [maxLen]; omega) (by omega) H4.out.bl ?_; intro A4 c4' w4 ho4 hg4 ha4; have hb4 := H4.out.box.grown hg4 (own_blk_ne H4.out.rowE H4.out.box (by decide)).symm; have c42 : w4.cell? ⟨gw, 2, none⟩ = some (.slice Ae E ce) := hb4.cell 2; have f42 := hb4.frozen 2))
  all_goals
    refine NoPanic.normal ?_
    have HN := hide (H3.out.exec HXR.out (i : Int) ho4 hg4)
    have hm1 := HFD3.out.ext HXR.out
    have hm2 := hm1.kept hg4 (fun e => hm1.ne_own H4.out.rowE e.symm)
    have hm4 := hm2.far (p := ⟨gw, 2, none⟩) (hm2.ne_blk hb4) (.slice A4 (E + 1) c4')
    have hlen := fun ty => hm4.lenI ty
    have hct := hm4.cnt
    generalize cntT f = ct at *
    have t7 : decide ((ct : Int) ≤ 8) = true := decide_eq_true (by omega)
    clear hm1 hm2 hm4 ho4 hg4 ha4 hb4
    go_wp2_with fail
    go_ret
    exact ⟨rfl, N, E + 1, ms, _, cf, A4, c4', HN.out⟩
set_option maxHeartbeats 8000000 in
set_option maxRecDepth 100000 in
theorem step_fork (w0 wb w : World) (be gw K N E i : Nat) (d : WT) (ms : List Nat) (Af Ae : Option Addr) (cf ce : Nat) (f : FdT) (a b c : Int) (name : BsI) (h : WAt w0 wb be gw K N E d ms Af cf Ae ce w) (hi : i < N) (hne : (i : Int) ∉ d.execs) (hf : d.fds[i]? = some f) (hN : N ≤ 20) (hE : E ≤ 20) (hK : K ≤ 100000) (hi0 : i = 0) :
    Calls Try.prog 8 #[.pointer (some ⟨gw, 0, none⟩), .agg #[.int .i64 (i : Int), .int .i64 2, .int .i64 a, .int .i64 b, .int .i64 c, .string (str name), .string ⟨#[]⟩, .slice none 0 0]] w (StOut w0 wb be gw K { d with fds := d.fds ++ [f] }) := by
  have hx0 := (Ext.refl w).alloc (.cells #[.int .i64 (i : Int), .int .i64 2, .int .i64 a, .int .i64 b, .int .i64 c, .string (str name), .string ⟨#[]⟩, .slice none 0 0] stT)
  have hb0 := Blk.new w stT #[.int .i64 (i : Int), .int .i64 2, .int .i64 a, .int .i64 b, .int .i64 c, .string (str name), .string ⟨#[]⟩, .slice none 0 0]
  have h1 := h.to hx0
  have hid : i < d.fds.length := by rw [h.lf]; exact hi
  have him : i < ms.length := by rw [h.lm]; exact hi
  obtain ⟨b5, hb5⟩ : ∃ b5, ms[i] = b5 := ⟨_, rfl⟩
  have hfd : FdAt (w.alloc (.cells #[.int .i64 (i : Int), .int .i64 2, .int .i64 a, .int .i64 b, .int .i64 c, .string (str name), .string ⟨#[]⟩, .slice none 0 0] stT)) b5 K f := by
    have := h1.each i him hid
    rw [hb5] at this
    rwa [show d.fds[i] = f by rw [List.getElem?_eq_getElem hid] at hf; injection hf] at this
  obtain ⟨gf, rfl, -⟩ := own_addr h1.rowF (by omega)
  have q5 := (own_cell h1.rowF i (u := .map (some b5)) (by rw [mapsV, List.getElem?_map, List.getElem?_eq_getElem him, hb5]; rfl)).1
  have HB5 := hide (show ∃ h : i < ms.length, ms[i] = b5 from ⟨him, hb5⟩)
  have HCT := hide (fun W (hW : Ext (w.alloc (.cells #[.int .i64 (i : Int), .int .i64 2, .int .i64 a, .int .i64 b, .int .i64 c, .string (str name), .string ⟨#[]⟩, .slice none 0 0] stT)) W) => cont_not Ae E ce _ d.execs (i : Int) W (hW.reads (Reads.of_own h1.rowE) (Nat.le_refl _)) (by simp only [maxLen]; omega) hne)
  have H1 := hide h1
  have HFD := hide hfd
  have HI0 := hide hi0
  clear hi0
  clear h h1 hx0 hne hf hid him hb5 hfd
  go_enter Try.func8, Try.ntmps8
  go_upto_region 1 with fail
  generalize w.alloc (.cells #[.int .i64 (i : Int), .int .i64 2, .int .i64 a, .int .i64 b, .int .i64 c, .string (str name), .string ⟨#[]⟩, .slice none 0 0] stT) = W at *
  generalize w.heap.size = gs at *
  have p0 : W.cell? ⟨gs, 0, none⟩ = some (.int .i64 (i : Int)) := hb0.cell 0
  have p1 : W.cell? ⟨gs, 1, none⟩ = some (.int .i64 2) := hb0.cell 1
  have p2 : W.cell? ⟨gs, 2, none⟩ = some (.int .i64 a) := hb0.cell 2
  have p3 : W.cell? ⟨gs, 3, none⟩ = some (.int .i64 b) := hb0.cell 3
  have p4 : W.cell? ⟨gs, 4, none⟩ = some (.int .i64 c) := hb0.cell 4
  have p5 : W.cell? ⟨gs, 5, none⟩ = some (.string (str name)) := hb0.cell 5
  have p6 : W.cell? ⟨gs, 6, none⟩ = some (.string ⟨#[]⟩) := hb0.cell 6
  have p7 : W.cell? ⟨gs, 7, none⟩ = some (.slice none 0 0) := hb0.cell 7
  have HBS := hide hb0
  have q0 : W.cell? ⟨gw, 0, none⟩ = some (.slice (some ⟨gf, 0, none⟩) N cf) := H1.out.box.cell 0
  have q2 : W.cell? ⟨gw, 2, none⟩ = some (.slice Ae E ce) := H1.out.box.cell 2
  have t1 : decide ((i : Int) < 0) = false := decide_eq_false (by omega)
  have t2 : decide ((N : Int) ≤ (i : Int)) = false := decide_eq_false (by omega)
  have t3 : decide (N ≤ i) = false := decide_eq_false (by omega)
  have t4 : (0 : Int) ≤ (i : Int) := by omega
  have t5 : (i : Int) < (N : Int) := by omega
  clear hb0
  go_quiet ((go_at_call 14; exact quiet_left (HCT.out _ ((Ext.refl _).drewN _))))
  have HXQ := hide ((Ext.refl W).drewN nq)
  have H2 := hide (H1.out.to HXQ.out)
  have HBS2 := hide (HBS.out.ext HXQ.out)
  have HFD2 := hide (HFD.out.ext HXQ.out)
  replace p0 := HXQ.out.cell p0
  replace p1 := HXQ.out.cell p1
  replace p2 := HXQ.out.cell p2
  replace p3 := HXQ.out.cell p3
  replace p4 := HXQ.out.cell p4
  replace p5 := HXQ.out.cell p5
  replace p6 := HXQ.out.cell p6
  replace p7 := HXQ.out.cell p7
  replace q0 := HXQ.out.cell q0
  replace q2 := HXQ.out.cell q2
  replace q5 := HXQ.out.cell q5
  generalize W.drewN nq = W2 at *
  clear HCT H1 HBS HFD HXQ
  go_upto_region 3 with fail
  go_region_held3 (fun w' => w'.cell? ⟨gs, 0, none⟩ = some (.int .i64 (i : Int)) ∧ w'.cell? ⟨gs, 1, none⟩ = some (.int .i64 2) ∧ w'.cell? ⟨gs, 2, none⟩ = some (.int .i64 a) ∧ w'.cell? ⟨gs, 3, none⟩ = some (.int .i64 b) ∧ w'.cell? ⟨gs, 4, none⟩ = some (.int .i64 c) ∧ w'.cell? ⟨gs, 5, none⟩ = some (.string (str name)) ∧ w'.cell? ⟨gs, 6, none⟩ = some (.string ⟨#[]⟩) ∧ w'.cell? ⟨gs, 7, none⟩ = some (.slice none 0 0) ∧ w'.cell? ⟨gw, 0, none⟩ = some (.slice (some ⟨gf, 0, none⟩) N cf) ∧ w'.cell? ⟨gf, i, none⟩ = some (.map (some b5)))
    (first | exact ⟨p0, p1, p2, p3, p4, p5, p6, p7, q0, q5⟩ | (refine ⟨Ext.cell (w := W2) ?_ p0, Ext.cell (w := W2) ?_ p1, Ext.cell (w := W2) ?_ p2, Ext.cell (w := W2) ?_ p3, Ext.cell (w := W2) ?_ p4, Ext.cell (w := W2) ?_ p5, Ext.cell (w := W2) ?_ p6, Ext.cell (w := W2) ?_ p7, Ext.cell (w := W2) ?_ q0, Ext.cell (w := W2) ?_ q5⟩ <;> ((repeat (first | with_reducible exact Ext.refl _ | with_reducible assumption | with_reducible refine Ext.alloc ?_ _ | with_reducible refine Ext.drew ?_ | with_reducible refine Ext.drewN ?_ _ | with_reducible refine Ext.setCell ?_ (by first | exact Nat.le_refl _ | assumption | (simp; done) | omega) _ | with_reducible refine Ext.trans ?_ (by with_reducible assumption))); done)) | fail)
    (fail)
  have hxa := ((Ext.refl W2).alloc (.cells #[.int .i64 2, .int .i64 a, .int .i64 b, .int .i64 c, .string (str name), .string ⟨#[]⟩, .slice none 0 0] caT)).drew
  have hbc := (Blk.new W2 caT #[.int .i64 2, .int .i64 a, .int .i64 b, .int .i64 c, .string (str name), .string ⟨#[]⟩, .slice none 0 0]).drew
  have H3 := hide (H2.out.to hxa)
  have HBS3 := hide (HBS2.out.ext hxa)
  have HFD3 := hide (HFD2.out.ext hxa)
  generalize (W2.alloc (.cells #[.int .i64 2, .int .i64 a, .int .i64 b, .int .i64 c, .string (str name), .string ⟨#[]⟩, .slice none 0 0] caT)).drew = W3 at *
  generalize W2.heap.size = gc at *
  have HBC := hide hbc
  have HSC := hide (show gs ≠ gc from Blk.ne_ HBS3.out HBC.out (by decide))
  have HWS := hide (show gw ≠ gs from Blk.ne_ H3.out.box HBS3.out (by decide))
  have HWC := hide (show gw ≠ gc from Blk.ne_ H3.out.box HBC.out (by decide))
  have p0 : W3.cell? ⟨gs, 0, none⟩ = some (.int .i64 (i : Int)) := HBS3.out.cell 0
  have c0 : W3.cell? ⟨gc, 0, none⟩ = some (.int .i64 2) := HBC.out.cell 0
  have c1 : W3.cell? ⟨gc, 1, none⟩ = some (.int .i64 a) := HBC.out.cell 1
  have c2 : W3.cell? ⟨gc, 2, none⟩ = some (.int .i64 b) := HBC.out.cell 2
  have c4 : W3.cell? ⟨gc, 4, none⟩ = some (.string (str name)) := HBC.out.cell 4
  have q0 : W3.cell? ⟨gw, 0, none⟩ = some (.slice (some ⟨gf, 0, none⟩) N cf) := H3.out.box.cell 0
  have q1 : W3.cell? ⟨gw, 1, none⟩ = some (.int .i64 (d.pipes : Int)) := H3.out.box.cell 1
  have q2 : W3.cell? ⟨gw, 2, none⟩ = some (.slice Ae E ce) := H3.out.box.cell 2
  have q3 : W3.cell? ⟨gw, 3, none⟩ = some (.int .i64 (d.waits : Int)) := H3.out.box.cell 3
  have f0 := H3.out.box.frozen 0
  have f1 := H3.out.box.frozen 1
  have f2 := H3.out.box.frozen 2
  have f3 := H3.out.box.frozen 3
  clear hbc hxa H2 HBS2 HFD2 q5 p1 p2 p3 p4 p5 p6 p7
  obtain ⟨D0, hown0, hsay⟩ := HFD3.out.m
  have HOWN := hide hown0
  have HSAY := hide hsay
  have HSZ := hide hown0.size_le
  have HBL := hide hown0.lt
  have law := int_keyed (P := Try.prog) Try.underlying3
  have hmm := @run_makeMap Try.prog
  have e1 : (W3.alloc (.map #[] 0)).heap.size = W3.heap.size + 1 := by simp
  have t6 : ((i : Int) == 0) = true := by rw [HI0.out]; rfl
  have t7 : decide ((i : Int) = 0) = true := decide_eq_true (by rw [HI0.out]; rfl)
  have HM0 := hide (World.ownsMap_made (H := Unit) W3 Try.prog 3 (plainElem Try.prog 9))
  clear hown0 hsay
  go_wp2_with (first
    | (at_range; refine wpList_range_own _ rfl _ 44 rfl 3 9 law Try.underlying44 _ b5 K _ rfl (HOWN.out.alloc _) ?_; intro w4 hrg0 hg0 hs0)
    | go_in)
  go_frame
  rw [e1] at hrg0 hs0 ⊢
  go_loopw [75] (fun _ wr => ∃ (left : Lit → Bool) (cnt : Nat) (Dout : DataW Unit), wr.ranges Try.prog 3 (plainElem Try.prog 9) b5 (W3.heap.size + 1) K D0 left cnt ∧ cnt ≤ Maps.size D0 ∧
      wr.ownsMap Try.prog 3 (plainElem Try.prog 9) W3.heap.size (Maps.size D0 - cnt) Dout ∧ Agree Dout D0 left ∧ Ext W3 wr)
    (fun _ wr => wr.rangeLeft b5 (W3.heap.size + 1))
  case atStart =>
    exact ⟨_, _, .map [], hrg0, Nat.le_refl _, (HM0.out.kept hg0 (by simp)).mono (Nat.zero_le _), agree_start D0, ((Ext.refl W3).alloc _).grown hg0 (fun j hj => by cases hj)⟩
  case round =>
    obtain ⟨left, cnt, Dout, hrg, hcs, hout, hA, hx⟩ := hrel
    have HX := hide hx
    have HAG := hide hA
    clear hx hA hrg0 hg0 hs0
    have hks := HSZ.out
    go_wp2_with (first
      | (at_next; refine wpList_next_ranges_is _ rfl _ rfl 3 9 .i64 law Try.underlying3 Try.underlying9 b5 (W3.heap.size + 1) K _ _ _ rfl hrg ?_ ?_)
      | go_in)
    · intro hc0 hl0
      subst hc0
      have e := agree_end HAG.out hl0 (hout.canon law) (HOWN.out.canon law)
      subst e
      have HKID := hide (show FdAt wr W3.heap.size K f from ⟨⟨Dout, hout.mono (by omega), HSAY.out⟩, HFD3.out.len⟩)
      have H5 := hide (H3.out.to HX.out)
      clear hout hl0 hrg
      obtain ⟨i0, hi0, hz0, hz1, hz2⟩ := info_parts map_infoT
      have hxr := (Ext.refl wr).alloc (.cells #[.map (some W3.heap.size)] mpT)
      have HXR := hide hxr
      have H6 := hide (H5.out.to hxr)
      have HRW := hide ((Blk.new wr mpT #[.map (some W3.heap.size)]).reads)
      have q0' : wr.cell? ⟨gw, 0, none⟩ = some (.slice (some ⟨gf, 0, none⟩) N cf) := H5.out.box.cell 0
      have HP0 := hide (HX.out.cell p0)
      have HL1 := hide (show N + 1 ≤ maxLen by simp only [maxLen]; omega)
      have HL2 := hide (show (N + 1) * 8 ≤ 140737488355328 by omega)
      have HXW := HX
      clear hxr q0 q1 q2 q3 f0 f1 f2 f3 p0 c0 c1 c2 c4
      go_wp2_with (at_builtin; refine wpList_append_any _ rfl (.tmp 86) (.tmp 88) 45 rfl w0.heap.size mpT i0 _ 1 8 Try.underlying45 hi0 hz0 hz1 hz2 rfl (by decide) (.slice (some ⟨gf, 0, none⟩) N cf) N (mapsV ms) rfl H6.out.rowF _ _ 1 1 [.map (some W3.heap.size)] rfl HRW.out (by simp [Value.oneCell']) HL1.out HL2.out H6.out.ext.size ?_; intro A4 c4' w9 ho9 hg9 ha9; have hb9 := H6.out.box.grown hg9 (own_blk_ne H6.out.rowF H6.out.box (by decide)).symm; have c90 : w9.cell? ⟨gw, 0, none⟩ = some (.slice (some ⟨gf, 0, none⟩) N cf) := hb9.cell 0; have f90 := hb9.frozen 0; have HN := hide (H3.out.fork (b := W3.heap.size) (K' := K) (Nat.le_refl _) (HX.out.trans HXR.out) (Nat.le_refl _) (HKID.out.ext HXR.out) ho9 hg9); have hp9 := far1 (g := gw) (i := 0) (Blk.grown (HBS3.out.ext (HX.out.trans HXR.out)) hg9 (own_blk_ne H6.out.rowF (HBS3.out.ext (HX.out.trans HXR.out)) (by decide)).symm |>.cell 0) HWS.out (.slice A4 (N + 1) c4'); clear ho9 hg9 ha9)
      go_ret
      exact ⟨rfl, N + 1, E, _, _, c4', Ae, ce, HN.out⟩
    · intro x c w1 cnt1 hwx hwc hlx hat hrg1 hlt hg1 hs1 hen
      have hbl2 := HBL.out
      have hout1 := hout.kept hg1 (by simp)
      go_wp2_with (first
        | (at_mapUpdate; refine wpList_mapUpdate_own _ rfl _ _ _ 44 rfl 3 9 law Try.underlying44 _ W3.heap.size _ _ rfl hout1 (by simp only [maxLen]; omega) _ _ _ rfl rfl (keyOf_int_mk Try.underlying3 hwx) _ [] (plainElem_string Try.underlying9 hwc) ?_; intro w2 hout2 hg2; go_frame)
        | go_in)
      have hrg2 := hrg1.kept hg2 (fun e => by have := Option.some.inj e; omega) (fun e => by have := Option.some.inj e; omega)
      go_roundw
      case rel =>
        exact ⟨_, cnt1, _, hrg2, by omega, hout2.mono (by omega), agree_step HAG.out hout.isMap trivial hat,
          (HX.out.grown hg1 (fun j hj => by cases hj; exact Nat.le_succ _)).grown hg2 (fun j hj => by cases hj; exact Nat.le_refl _)⟩
      case measure => rw [hrg2.left_eq, hrg.left_eq]; exact hlt
end Go.Proofs.Ytikpdhkjkmbomaa
