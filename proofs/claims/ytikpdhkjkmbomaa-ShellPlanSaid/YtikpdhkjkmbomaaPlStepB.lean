/- Contracts of (*world).step (printed by gen_step.py). -/
import Derived.Test.YtikpdhkjkmbomaaPlStepH
namespace Go.Proofs.Ytikpdhkjkmbomaa
open Go.RowKit Go.Maps
set_option linter.unusedVariables false

set_option maxHeartbeats 8000000 in
set_option maxRecDepth 100000 in
theorem step_pipe (w0 wb w : World) (be gw K N E i : Nat) (d : WT) (ms : List Nat) (Af Ae : Option Addr) (cf ce : Nat) (f : FdT) (a b c : Int) (name : BsI) (h : WAt w0 wb be gw K N E d ms Af cf Ae ce w) (hi : i < N) (hne : (i : Int) ∉ d.execs) (hf : d.fds[i]? = some f) (hN : N ≤ 20) (hE : E ≤ 20) (hK : K ≤ 100000) (hp : d.pipes ≤ 9) (hl1 : leastT f < 8) (hl2 : leastT (f.set (leastT f) (.rd d.pipes)) < 8) :
    Calls Try.prog 8 #[.pointer (some ⟨gw, 0, none⟩), .agg #[.int .i64 (i : Int), .int .i64 10, .int .i64 a, .int .i64 b, .int .i64 c, .string (str name), .string ⟨#[]⟩, .slice none 0 0]] w (StOut w0 wb be gw (K + 2) { d with fds := d.fds.set i ((f.set (leastT f) (.rd d.pipes)).set (leastT (f.set (leastT f) (.rd d.pipes))) (.wr d.pipes)), pipes := d.pipes + 1 }) := by
  have hx0 := (Ext.refl w).alloc (.cells #[.int .i64 (i : Int), .int .i64 10, .int .i64 a, .int .i64 b, .int .i64 c, .string (str name), .string ⟨#[]⟩, .slice none 0 0] stT)
  have hb0 := Blk.new w stT #[.int .i64 (i : Int), .int .i64 10, .int .i64 a, .int .i64 b, .int .i64 c, .string (str name), .string ⟨#[]⟩, .slice none 0 0]
  have h1 := h.to hx0
  have hid : i < d.fds.length := by rw [h.lf]; exact hi
  have him : i < ms.length := by rw [h.lm]; exact hi
  obtain ⟨b5, hb5⟩ : ∃ b5, ms[i] = b5 := ⟨_, rfl⟩
  have hfd : FdAt (w.alloc (.cells #[.int .i64 (i : Int), .int .i64 10, .int .i64 a, .int .i64 b, .int .i64 c, .string (str name), .string ⟨#[]⟩, .slice none 0 0] stT)) b5 K f := by
    have := h1.each i him hid
    rw [hb5] at this
    rwa [show d.fds[i] = f by rw [List.getElem?_eq_getElem hid] at hf; injection hf] at this
  obtain ⟨gf, rfl, -⟩ := own_addr h1.rowF (by omega)
  have q5 := (own_cell h1.rowF i (u := .map (some b5)) (by rw [mapsV, List.getElem?_map, List.getElem?_eq_getElem him, hb5]; rfl)).1
  have HB5 := hide (show ∃ h : i < ms.length, ms[i] = b5 from ⟨him, hb5⟩)
  have HCT := hide (fun W (hW : Ext (w.alloc (.cells #[.int .i64 (i : Int), .int .i64 10, .int .i64 a, .int .i64 b, .int .i64 c, .string (str name), .string ⟨#[]⟩, .slice none 0 0] stT)) W) => cont_not Ae E ce _ d.execs (i : Int) W (hW.reads (Reads.of_own h1.rowE) (Nat.le_refl _)) (by simp only [maxLen]; omega) hne)
  have H1 := hide h1
  have HFD := hide hfd
  have HLA := hide hl1
  have HLB := hide hl2
  clear hl1 hl2
  clear h h1 hx0 hne hf hid him hb5 hfd
  go_enter Try.func8, Try.ntmps8
  go_upto_region 1 with fail
  generalize w.alloc (.cells #[.int .i64 (i : Int), .int .i64 10, .int .i64 a, .int .i64 b, .int .i64 c, .string (str name), .string ⟨#[]⟩, .slice none 0 0] stT) = W at *
  generalize w.heap.size = gs at *
  have p0 : W.cell? ⟨gs, 0, none⟩ = some (.int .i64 (i : Int)) := hb0.cell 0
  have p1 : W.cell? ⟨gs, 1, none⟩ = some (.int .i64 10) := hb0.cell 1
  have p2 : W.cell? ⟨gs, 2, none⟩ = some (.int .i64 a) := hb0.cell 2
  have p3 : W.cell? ⟨gs, 3, none⟩ = some (.int .i64 b) := hb0.cell 3
  have p4 : W.cell? ⟨gs, 4, none⟩ = some (.int .i64 c) := hb0.cell 4
  have p5 : W.cell? ⟨gs, 5, none⟩ = some (.string (str name)) := hb0.cell 5
  have p6 : W.cell? ⟨gs, 6, none⟩ = some (.string ⟨#[]⟩) := hb0.cell 6
  have p7 : W.cell? ⟨gs, 7, none⟩ = some (.slice none 0 0) := hb0.cell 7
  have HBS := hide hb0
  have q0 : W.cell? ⟨gw, 0, none⟩ = some (.slice (some ⟨gf, 0, none⟩) N cf) := H1.out.box.cell 0
  have q2 : W.cell? ⟨gw, 2, none⟩ = some (.slice Ae E ce) := H1.out.box.cell 2
  have t1 : decide ((i : Int) < 0) = false := decide_eq_false (by omega)
  have t2 : decide ((N : Int) ≤ (i : Int)) = false := decide_eq_false (by omega)
  have t3 : decide (N ≤ i) = false := decide_eq_false (by omega)
  have t4 : (0 : Int) ≤ (i : Int) := by omega
  have t5 : (i : Int) < (N : Int) := by omega
  clear hb0
  go_quiet ((go_at_call 14; exact quiet_left (HCT.out _ ((Ext.refl _).drewN _))))
  have HXQ := hide ((Ext.refl W).drewN nq)
  have H2 := hide (H1.out.to HXQ.out)
  have HBS2 := hide (HBS.out.ext HXQ.out)
  have HFD2 := hide (HFD.out.ext HXQ.out)
  replace p0 := HXQ.out.cell p0
  replace p1 := HXQ.out.cell p1
  replace p2 := HXQ.out.cell p2
  replace p3 := HXQ.out.cell p3
  replace p4 := HXQ.out.cell p4
  replace p5 := HXQ.out.cell p5
  replace p6 := HXQ.out.cell p6
  replace p7 := HXQ.out.cell p7
  replace q0 := HXQ.out.cell q0
  replace q2 := HXQ.out.cell q2
  replace q5 := HXQ.out.cell q5
  generalize W.drewN nq = W2 at *
  clear HCT H1 HBS HFD HXQ
  go_upto_region 3 with fail
  go_region_held3 (fun w' => w'.cell? ⟨gs, 0, none⟩ = some (.int .i64 (i : Int)) ∧ w'.cell? ⟨gs, 1, none⟩ = some (.int .i64 10) ∧ w'.cell? ⟨gs, 2, none⟩ = some (.int .i64 a) ∧ w'.cell? ⟨gs, 3, none⟩ = some (.int .i64 b) ∧ w'.cell? ⟨gs, 4, none⟩ = some (.int .i64 c) ∧ w'.cell? ⟨gs, 5, none⟩ = some (.string (str name)) ∧ w'.cell? ⟨gs, 6, none⟩ = some (.string ⟨#[]⟩) ∧ w'.cell? ⟨gs, 7, none⟩ = some (.slice none 0 0) ∧ w'.cell? ⟨gw, 0, none⟩ = some (.slice (some ⟨gf, 0, none⟩) N cf) ∧ w'.cell? ⟨gf, i, none⟩ = some (.map (some b5)))
    (first | exact ⟨p0, p1, p2, p3, p4, p5, p6, p7, q0, q5⟩ | (refine ⟨Ext.cell (w := W2) ?_ p0, Ext.cell (w := W2) ?_ p1, Ext.cell (w := W2) ?_ p2, Ext.cell (w := W2) ?_ p3, Ext.cell (w := W2) ?_ p4, Ext.cell (w := W2) ?_ p5, Ext.cell (w := W2) ?_ p6, Ext.cell (w := W2) ?_ p7, Ext.cell (w := W2) ?_ q0, Ext.cell (w := W2) ?_ q5⟩ <;> ((repeat (first | with_reducible exact Ext.refl _ | with_reducible assumption | with_reducible refine Ext.alloc ?_ _ | with_reducible refine Ext.drew ?_ | with_reducible refine Ext.drewN ?_ _ | with_reducible refine Ext.setCell ?_ (by first | exact Nat.le_refl _ | assumption | (simp; done) | omega) _ | with_reducible refine Ext.trans ?_ (by with_reducible assumption))); done)) | fail)
    (fail)
  have hxa := ((Ext.refl W2).alloc (.cells #[.int .i64 10, .int .i64 a, .int .i64 b, .int .i64 c, .string (str name), .string ⟨#[]⟩, .slice none 0 0] caT)).drew
  have hbc := (Blk.new W2 caT #[.int .i64 10, .int .i64 a, .int .i64 b, .int .i64 c, .string (str name), .string ⟨#[]⟩, .slice none 0 0]).drew
  have H3 := hide (H2.out.to hxa)
  have HBS3 := hide (HBS2.out.ext hxa)
  have HFD3 := hide (HFD2.out.ext hxa)
  generalize (W2.alloc (.cells #[.int .i64 10, .int .i64 a, .int .i64 b, .int .i64 c, .string (str name), .string ⟨#[]⟩, .slice none 0 0] caT)).drew = W3 at *
  generalize W2.heap.size = gc at *
  have HBC := hide hbc
  have HSC := hide (show gs ≠ gc from Blk.ne_ HBS3.out HBC.out (by decide))
  have HWS := hide (show gw ≠ gs from Blk.ne_ H3.out.box HBS3.out (by decide))
  have HWC := hide (show gw ≠ gc from Blk.ne_ H3.out.box HBC.out (by decide))
  have p0 : W3.cell? ⟨gs, 0, none⟩ = some (.int .i64 (i : Int)) := HBS3.out.cell 0
  have c0 : W3.cell? ⟨gc, 0, none⟩ = some (.int .i64 10) := HBC.out.cell 0
  have c1 : W3.cell? ⟨gc, 1, none⟩ = some (.int .i64 a) := HBC.out.cell 1
  have c2 : W3.cell? ⟨gc, 2, none⟩ = some (.int .i64 b) := HBC.out.cell 2
  have c4 : W3.cell? ⟨gc, 4, none⟩ = some (.string (str name)) := HBC.out.cell 4
  have q0 : W3.cell? ⟨gw, 0, none⟩ = some (.slice (some ⟨gf, 0, none⟩) N cf) := H3.out.box.cell 0
  have q1 : W3.cell? ⟨gw, 1, none⟩ = some (.int .i64 (d.pipes : Int)) := H3.out.box.cell 1
  have q2 : W3.cell? ⟨gw, 2, none⟩ = some (.slice Ae E ce) := H3.out.box.cell 2
  have q3 : W3.cell? ⟨gw, 3, none⟩ = some (.int .i64 (d.waits : Int)) := H3.out.box.cell 3
  have f0 := H3.out.box.frozen 0
  have f1 := H3.out.box.frozen 1
  have f2 := H3.out.box.frozen 2
  have f3 := H3.out.box.frozen 3
  clear hbc hxa H2 HBS2 HFD2 q5 p1 p2 p3 p4 p5 p6 p7
  have HIT := hide (itoa_digit d.pipes (by omega) W3)
  go_wp2_with fail
  refine HIT.out.mono ?_
  rintro e W4 ⟨rfl, hx4⟩
  have H4 := hide (H3.out.to hx4)
  have HFD4 := hide (HFD3.out.ext hx4)
  clear HIT hx4 q0 q1 q2 q3 f0 f1 f2 f3 p0 c0 c1 c2 c4
  have q1 : W4.cell? ⟨gw, 1, none⟩ = some (.int .i64 (d.pipes : Int)) := H4.out.box.cell 1
  have f1 := H4.out.box.frozen 1
  go_upto_region 9 with fail
  have H5 := hide (H4.out.cell 1 (.int .i64 ((d.pipes + 1 : Nat) : Int)) (d' := { d with pipes := d.pipes + 1 }) rfl rfl rfl)
  have HFD5 := hide (HFD4.out.far (p := ⟨gw, 1, none⟩) (HFD4.out.ne_blk H4.out.box) (.int .i64 ((d.pipes + 1 : Nat) : Int)))
  have eW : W4.setCell ⟨gw, 1, none⟩ (.int .i64 ((d.pipes + 1 : Nat) : Int)) = W4.setCell ⟨gw, 1, none⟩ (.int .i64 ((d.pipes : Int) + 1)) := rfl
  rw [eW] at H5 HFD5
  generalize W4.setCell ⟨gw, 1, none⟩ (.int .i64 ((d.pipes : Int) + 1)) = W5 at *
  clear q1 f1 eW H4 HFD4
  have hap1 : (⟨#[114]⟩ : ByteArray) ++ str (digit d.pipes) = str (tokS (.rd d.pipes)) := str_append [114] (digit d.pipes)
  have hap2 : (⟨#[119]⟩ : ByteArray) ++ str (digit d.pipes) = str (tokS (.wr d.pipes)) := str_append [119] (digit d.pipes)
  obtain ⟨W6, hput1, hm6, hg6⟩ := HFD5.out.put (by simp only [maxLen]; omega) (leastT f) HLA.out (.rd d.pipes) (by simp) (tokS_len _)
  have HLC := hide (pleast_any f b5 K W5 HFD5.out HLA.out)
  have HLD := hide (pleast_any (f.set (leastT f) (.rd d.pipes)) b5 (K + 1) W6 hm6 HLB.out)
  obtain ⟨W7, hput2, hm7, hg7⟩ := hm6.put (by simp only [maxLen]; omega) (leastT (f.set (leastT f) (.rd d.pipes))) HLB.out (.wr d.pipes) (by simp) (tokS_len _)
  obtain ⟨him, hb5⟩ := HB5.out
  have h7 := (H5.out.turn i him (Nat.le_succ K) (by rw [hb5]; exact hm6) (by rw [hb5]; exact hg6)).turn i him (Nat.le_succ (K + 1)) (by rw [hb5]; exact hm7) (by rw [hb5]; exact hg7)
  simp only [List.set_set] at h7
  have HN := hide h7
  have hlen := fun ty => hm7.lenI ty
  have hct := hm7.cnt
  clear hm6 hm7 hg6 hg7 h7 hb5
  generalize cntT ((f.set (leastT f) (.rd d.pipes)).set (leastT (f.set (leastT f) (.rd d.pipes))) (.wr d.pipes)) = ct at *
  have t7 : decide ((ct : Int) ≤ 8) = true := decide_eq_true (by omega)
  generalize hn2 : leastT (f.set (leastT f) (.rd d.pipes)) = n2 at hput2 HLD
  generalize hn1 : leastT f = n1 at hput1 HLC
  have HE1 := hide hn1
  have HE2 := hide hn2
  clear hn1 hn2
  go_wp2_with fail
  refine HLC.out.mono ?_
  rintro e w8 ⟨rfl, rfl⟩
  go_wp2_with fail
  refine HLD.out.mono ?_
  rintro e w8 ⟨rfl, rfl⟩
  go_wp2_with fail
  go_ret
  exact ⟨rfl, N, E, ms, _, cf, Ae, ce, HN.out⟩
set_option maxHeartbeats 8000000 in
set_option maxRecDepth 100000 in
theorem step_open_in (w0 wb w : World) (be gw K N E i : Nat) (d : WT) (ms : List Nat) (Af Ae : Option Addr) (cf ce : Nat) (f : FdT) (a b c : Int) (name : BsI) (h : WAt w0 wb be gw K N E d ms Af cf Ae ce w) (hi : i < N) (hne : (i : Int) ∉ d.execs) (hf : d.fds[i]? = some f) (hN : N ≤ 20) (hE : E ≤ 20) (hK : K ≤ 100000) (hl1 : leastT f < 8) :
    Calls Try.prog 8 #[.pointer (some ⟨gw, 0, none⟩), .agg #[.int .i64 (i : Int), .int .i64 5, .int .i64 1, .int .i64 0, .int .i64 c, .string (str [105, 110]), .string ⟨#[]⟩, .slice none 0 0]] w (StOut w0 wb be gw (K + 1) { d with fds := d.fds.set i (f.set (leastT f) .fin) }) := by
  have hx0 := (Ext.refl w).alloc (.cells #[.int .i64 (i : Int), .int .i64 5, .int .i64 1, .int .i64 0, .int .i64 c, .string (str [105, 110]), .string ⟨#[]⟩, .slice none 0 0] stT)
  have hb0 := Blk.new w stT #[.int .i64 (i : Int), .int .i64 5, .int .i64 1, .int .i64 0, .int .i64 c, .string (str [105, 110]), .string ⟨#[]⟩, .slice none 0 0]
  have h1 := h.to hx0
  have hid : i < d.fds.length := by rw [h.lf]; exact hi
  have him : i < ms.length := by rw [h.lm]; exact hi
  obtain ⟨b5, hb5⟩ : ∃ b5, ms[i] = b5 := ⟨_, rfl⟩
  have hfd : FdAt (w.alloc (.cells #[.int .i64 (i : Int), .int .i64 5, .int .i64 1, .int .i64 0, .int .i64 c, .string (str [105, 110]), .string ⟨#[]⟩, .slice none 0 0] stT)) b5 K f := by
    have := h1.each i him hid
    rw [hb5] at this
    rwa [show d.fds[i] = f by rw [List.getElem?_eq_getElem hid] at hf; injection hf] at this
  obtain ⟨gf, rfl, -⟩ := own_addr h1.rowF (by omega)
  have q5 := (own_cell h1.rowF i (u := .map (some b5)) (by rw [mapsV, List.getElem?_map, List.getElem?_eq_getElem him, hb5]; rfl)).1
  have HB5 := hide (show ∃ h : i < ms.length, ms[i] = b5 from ⟨him, hb5⟩)
  have HCT := hide (fun W (hW : Ext (w.alloc (.cells #[.int .i64 (i : Int), .int .i64 5, .int .i64 1, .int .i64 0, .int .i64 c, .string (str [105, 110]), .string ⟨#[]⟩, .slice none 0 0] stT)) W) => cont_not Ae E ce _ d.execs (i : Int) W (hW.reads (Reads.of_own h1.rowE) (Nat.le_refl _)) (by simp only [maxLen]; omega) hne)
  have H1 := hide h1
  have HFD := hide hfd
  have HLA := hide hl1
  clear hl1
  clear h h1 hx0 hne hf hid him hb5 hfd
  go_enter Try.func8, Try.ntmps8
  go_upto_region 1 with fail
  generalize w.alloc (.cells #[.int .i64 (i : Int), .int .i64 5, .int .i64 1, .int .i64 0, .int .i64 c, .string (str [105, 110]), .string ⟨#[]⟩, .slice none 0 0] stT) = W at *
  generalize w.heap.size = gs at *
  have p0 : W.cell? ⟨gs, 0, none⟩ = some (.int .i64 (i : Int)) := hb0.cell 0
  have p1 : W.cell? ⟨gs, 1, none⟩ = some (.int .i64 5) := hb0.cell 1
  have p2 : W.cell? ⟨gs, 2, none⟩ = some (.int .i64 1) := hb0.cell 2
  have p3 : W.cell? ⟨gs, 3, none⟩ = some (.int .i64 0) := hb0.cell 3
  have p4 : W.cell? ⟨gs, 4, none⟩ = some (.int .i64 c) := hb0.cell 4
  have p5 : W.cell? ⟨gs, 5, none⟩ = some (.string (str [105, 110])) := hb0.cell 5
  have p6 : W.cell? ⟨gs, 6, none⟩ = some (.string ⟨#[]⟩) := hb0.cell 6
  have p7 : W.cell? ⟨gs, 7, none⟩ = some (.slice none 0 0) := hb0.cell 7
  have HBS := hide hb0
  have q0 : W.cell? ⟨gw, 0, none⟩ = some (.slice (some ⟨gf, 0, none⟩) N cf) := H1.out.box.cell 0
  have q2 : W.cell? ⟨gw, 2, none⟩ = some (.slice Ae E ce) := H1.out.box.cell 2
  have t1 : decide ((i : Int) < 0) = false := decide_eq_false (by omega)
  have t2 : decide ((N : Int) ≤ (i : Int)) = false := decide_eq_false (by omega)
  have t3 : decide (N ≤ i) = false := decide_eq_false (by omega)
  have t4 : (0 : Int) ≤ (i : Int) := by omega
  have t5 : (i : Int) < (N : Int) := by omega
  clear hb0
  go_quiet ((go_at_call 14; exact quiet_left (HCT.out _ ((Ext.refl _).drewN _))))
  have HXQ := hide ((Ext.refl W).drewN nq)
  have H2 := hide (H1.out.to HXQ.out)
  have HBS2 := hide (HBS.out.ext HXQ.out)
  have HFD2 := hide (HFD.out.ext HXQ.out)
  replace p0 := HXQ.out.cell p0
  replace p1 := HXQ.out.cell p1
  replace p2 := HXQ.out.cell p2
  replace p3 := HXQ.out.cell p3
  replace p4 := HXQ.out.cell p4
  replace p5 := HXQ.out.cell p5
  replace p6 := HXQ.out.cell p6
  replace p7 := HXQ.out.cell p7
  replace q0 := HXQ.out.cell q0
  replace q2 := HXQ.out.cell q2
  replace q5 := HXQ.out.cell q5
  generalize W.drewN nq = W2 at *
  clear HCT H1 HBS HFD HXQ
  go_upto_region 3 with fail
  go_region_held3 (fun w' => w'.cell? ⟨gs, 0, none⟩ = some (.int .i64 (i : Int)) ∧ w'.cell? ⟨gs, 1, none⟩ = some (.int .i64 5) ∧ w'.cell? ⟨gs, 2, none⟩ = some (.int .i64 1) ∧ w'.cell? ⟨gs, 3, none⟩ = some (.int .i64 0) ∧ w'.cell? ⟨gs, 4, none⟩ = some (.int .i64 c) ∧ w'.cell? ⟨gs, 5, none⟩ = some (.string (str [105, 110])) ∧ w'.cell? ⟨gs, 6, none⟩ = some (.string ⟨#[]⟩) ∧ w'.cell? ⟨gs, 7, none⟩ = some (.slice none 0 0) ∧ w'.cell? ⟨gw, 0, none⟩ = some (.slice (some ⟨gf, 0, none⟩) N cf) ∧ w'.cell? ⟨gf, i, none⟩ = some (.map (some b5)))
    (first | exact ⟨p0, p1, p2, p3, p4, p5, p6, p7, q0, q5⟩ | (refine ⟨Ext.cell (w := W2) ?_ p0, Ext.cell (w := W2) ?_ p1, Ext.cell (w := W2) ?_ p2, Ext.cell (w := W2) ?_ p3, Ext.cell (w := W2) ?_ p4, Ext.cell (w := W2) ?_ p5, Ext.cell (w := W2) ?_ p6, Ext.cell (w := W2) ?_ p7, Ext.cell (w := W2) ?_ q0, Ext.cell (w := W2) ?_ q5⟩ <;> ((repeat (first | with_reducible exact Ext.refl _ | with_reducible assumption | with_reducible refine Ext.alloc ?_ _ | with_reducible refine Ext.drew ?_ | with_reducible refine Ext.drewN ?_ _ | with_reducible refine Ext.setCell ?_ (by first | exact Nat.le_refl _ | assumption | (simp; done) | omega) _ | with_reducible refine Ext.trans ?_ (by with_reducible assumption))); done)) | fail)
    (fail)
  have hxa := ((Ext.refl W2).alloc (.cells #[.int .i64 5, .int .i64 1, .int .i64 0, .int .i64 c, .string (str [105, 110]), .string ⟨#[]⟩, .slice none 0 0] caT)).drew
  have hbc := (Blk.new W2 caT #[.int .i64 5, .int .i64 1, .int .i64 0, .int .i64 c, .string (str [105, 110]), .string ⟨#[]⟩, .slice none 0 0]).drew
  have H3 := hide (H2.out.to hxa)
  have HBS3 := hide (HBS2.out.ext hxa)
  have HFD3 := hide (HFD2.out.ext hxa)
  generalize (W2.alloc (.cells #[.int .i64 5, .int .i64 1, .int .i64 0, .int .i64 c, .string (str [105, 110]), .string ⟨#[]⟩, .slice none 0 0] caT)).drew = W3 at *
  generalize W2.heap.size = gc at *
  have HBC := hide hbc
  have HSC := hide (show gs ≠ gc from Blk.ne_ HBS3.out HBC.out (by decide))
  have HWS := hide (show gw ≠ gs from Blk.ne_ H3.out.box HBS3.out (by decide))
  have HWC := hide (show gw ≠ gc from Blk.ne_ H3.out.box HBC.out (by decide))
  have p0 : W3.cell? ⟨gs, 0, none⟩ = some (.int .i64 (i : Int)) := HBS3.out.cell 0
  have c0 : W3.cell? ⟨gc, 0, none⟩ = some (.int .i64 5) := HBC.out.cell 0
  have c1 : W3.cell? ⟨gc, 1, none⟩ = some (.int .i64 1) := HBC.out.cell 1
  have c2 : W3.cell? ⟨gc, 2, none⟩ = some (.int .i64 0) := HBC.out.cell 2
  have c4 : W3.cell? ⟨gc, 4, none⟩ = some (.string (str [105, 110])) := HBC.out.cell 4
  have q0 : W3.cell? ⟨gw, 0, none⟩ = some (.slice (some ⟨gf, 0, none⟩) N cf) := H3.out.box.cell 0
  have q1 : W3.cell? ⟨gw, 1, none⟩ = some (.int .i64 (d.pipes : Int)) := H3.out.box.cell 1
  have q2 : W3.cell? ⟨gw, 2, none⟩ = some (.slice Ae E ce) := H3.out.box.cell 2
  have q3 : W3.cell? ⟨gw, 3, none⟩ = some (.int .i64 (d.waits : Int)) := H3.out.box.cell 3
  have f0 := H3.out.box.frozen 0
  have f1 := H3.out.box.frozen 1
  have f2 := H3.out.box.frozen 2
  have f3 := H3.out.box.frozen 3
  clear hbc hxa H2 HBS2 HFD2 q5 p1 p2 p3 p4 p5 p6 p7
  have HIA := hide (fun W => itoa_digit 1 (by omega) W)
  have HIB := hide (fun W => itoa_digit 0 (by omega) W)
  have HLC := hide (pleast_any f b5 K W3.drew (HFD3.out.ext (Ext.refl W3).drew) HLA.out)
  have hap0 : (⟨#[102, 105, 108, 101, 32]⟩ : ByteArray) ++ str [105, 110] = str [102, 105, 108, 101, 32, 105, 110] := str_append [102, 105, 108, 101, 32] [105, 110]
  have hap1 : str [102, 105, 108, 101, 32, 105, 110] ++ str (digit 1) = str [102, 105, 108, 101, 32, 105, 110, 49] := str_append _ _
  have hap2 : str [102, 105, 108, 101, 32, 105, 110, 49] ++ (⟨#[32]⟩ : ByteArray) = str [102, 105, 108, 101, 32, 105, 110, 49, 32] := str_append _ [32]
  have hap3 : str [102, 105, 108, 101, 32, 105, 110, 49, 32] ++ str (digit 0) = str (tokS .fin) := str_append _ _
  have hs0 : ∀ W : World, (Op.stringOp .add (⟨#[102, 105, 108, 101, 32]⟩ : ByteArray) (str [105, 110])).run Try.prog W = .ok (.string (str [102, 105, 108, 101, 32, 105, 110])) W := fun W => by rw [← hap0]; exact run_string_add_sum W _ _ (by decide)
  have hs1 : ∀ W : World, (Op.stringOp .add (str [102, 105, 108, 101, 32, 105, 110]) (str (digit 1))).run Try.prog W = .ok (.string (str [102, 105, 108, 101, 32, 105, 110, 49])) W := fun W => by rw [← hap1]; exact run_string_add_sum W _ _ (by decide)
  have hs2 : ∀ W : World, (Op.stringOp .add (str [102, 105, 108, 101, 32, 105, 110, 49]) (⟨#[32]⟩ : ByteArray)).run Try.prog W = .ok (.string (str [102, 105, 108, 101, 32, 105, 110, 49, 32])) W := fun W => by rw [← hap2]; exact run_string_add_sum W _ _ (by decide)
  have hs3 : ∀ W : World, (Op.stringOp .add (str [102, 105, 108, 101, 32, 105, 110, 49, 32]) (str (digit 0))).run Try.prog W = .ok (.string (str (tokS .fin))) W := fun W => by rw [← hap3]; exact run_string_add_sum W _ _ (by decide)
  clear hap0 hap1 hap2 hap3
  obtain ⟨n1, hn1⟩ : ∃ n1, leastT f = n1 := ⟨_, rfl⟩
  rw [hn1] at HLC
  have HN1 := hide hn1
  have hn8 : n1 < 8 := by rw [← hn1]; exact HLA.out
  clear hn1
  go_upto_region 28 with fail
  go_region_held3 (fun w' => w'.cell? ⟨gc, 4, none⟩ = some (.string (str [105, 110])) ∧ w'.cell? ⟨gc, 1, none⟩ = some (.int .i64 1) ∧ w'.cell? ⟨gc, 2, none⟩ = some (.int .i64 0))
    (first | exact ⟨c4, c1, c2⟩ | exact hk9 | (refine ⟨Ext.cell (w := W3) ?_ c4, Ext.cell (w := W3) ?_ c1, Ext.cell (w := W3) ?_ c2⟩ <;> ((repeat (first | with_reducible exact Ext.refl _ | with_reducible assumption | with_reducible refine Ext.alloc ?_ _ | with_reducible refine Ext.drew ?_ | with_reducible refine Ext.drewN ?_ _ | with_reducible refine Ext.setCell ?_ (by first | exact Nat.le_refl _ | assumption | (simp; done) | omega) _ | with_reducible refine Ext.trans ?_ (by with_reducible assumption))); done)) | fail)
    (first
      | (go_at_call_of 15 (Value.map (some b5)); refine HLC.out.mono ?_; rintro e w6 ⟨rfl, hw6⟩; subst hw6)
      | (go_at_call_of 6 (Value.int IntKind.i64 1); refine (HIA.out _).mono ?_; rintro e w7 ⟨rfl, hx7⟩; have hx7' := (Ext.refl W3).drew.trans hx7)
      | (go_at_call_of 6 (Value.int IntKind.i64 0); refine (HIB.out _).mono ?_; rintro e w8 ⟨rfl, hx8⟩; have hx8' := hx7'.trans hx8; have H8 := hide (H3.out.to hx8'); obtain ⟨W9, hput, hm9, hg9⟩ := (HFD3.out.ext hx8').put (by simp only [maxLen]; omega) n1 hn8 .fin (by simp) (tokS_len _); have hb9 := (HBC.out.ext hx8').grown hg9 (fun e => (HFD3.out.ext hx8').ne_blk (HBC.out.ext hx8') (by injection e with e; exact e.symm)); have hk9 : W9.cell? ⟨gc, 4, none⟩ = some (.string (str [105, 110])) ∧ W9.cell? ⟨gc, 1, none⟩ = some (.int .i64 1) ∧ W9.cell? ⟨gc, 2, none⟩ = some (.int .i64 0) := ⟨hb9.cell 4, hb9.cell 1, hb9.cell 2⟩)
      | fail)
  obtain ⟨him, hb5⟩ := HB5.out
  have HN := hide (H8.out.turn i him (Nat.le_succ K) (f := f.set (leastT f) .fin) (by rw [hb5, HN1.out]; exact hm9) (by rw [hb5]; exact hg9))
  have hlen := fun ty => hm9.lenI ty
  have hct := hm9.cnt
  generalize cntT (f.set n1 .fin) = ct at *
  have t7 : decide ((ct : Int) ≤ 8) = true := decide_eq_true (by omega)
  clear hm9 hg9 hb9 hk9 hb5 hs0 hs1 hs2 hs3
  go_wp2_with fail
  go_ret
  exact ⟨rfl, N, E, ms, _, cf, Ae, ce, HN.out⟩
set_option maxHeartbeats 8000000 in
set_option maxRecDepth 100000 in
theorem step_open_out (w0 wb w : World) (be gw K N E i : Nat) (d : WT) (ms : List Nat) (Af Ae : Option Addr) (cf ce : Nat) (f : FdT) (a b c : Int) (name : BsI) (h : WAt w0 wb be gw K N E d ms Af cf Ae ce w) (hi : i < N) (hne : (i : Int) ∉ d.execs) (hf : d.fds[i]? = some f) (hN : N ≤ 20) (hE : E ≤ 20) (hK : K ≤ 100000) (hl1 : leastT f < 8) :
    Calls Try.prog 8 #[.pointer (some ⟨gw, 0, none⟩), .agg #[.int .i64 (i : Int), .int .i64 5, .int .i64 2, .int .i64 5, .int .i64 c, .string (str [111, 117, 116]), .string ⟨#[]⟩, .slice none 0 0]] w (StOut w0 wb be gw (K + 1) { d with fds := d.fds.set i (f.set (leastT f) .fout) }) := by
  have hx0 := (Ext.refl w).alloc (.cells #[.int .i64 (i : Int), .int .i64 5, .int .i64 2, .int .i64 5, .int .i64 c, .string (str [111, 117, 116]), .string ⟨#[]⟩, .slice none 0 0] stT)
  have hb0 := Blk.new w stT #[.int .i64 (i : Int), .int .i64 5, .int .i64 2, .int .i64 5, .int .i64 c, .string (str [111, 117, 116]), .string ⟨#[]⟩, .slice none 0 0]
  have h1 := h.to hx0
  have hid : i < d.fds.length := by rw [h.lf]; exact hi
  have him : i < ms.length := by rw [h.lm]; exact hi
  obtain ⟨b5, hb5⟩ : ∃ b5, ms[i] = b5 := ⟨_, rfl⟩
  have hfd : FdAt (w.alloc (.cells #[.int .i64 (i : Int), .int .i64 5, .int .i64 2, .int .i64 5, .int .i64 c, .string (str [111, 117, 116]), .string ⟨#[]⟩, .slice none 0 0] stT)) b5 K f := by
    have := h1.each i him hid
    rw [hb5] at this
    rwa [show d.fds[i] = f by rw [List.getElem?_eq_getElem hid] at hf; injection hf] at this
  obtain ⟨gf, rfl, -⟩ := own_addr h1.rowF (by omega)
  have q5 := (own_cell h1.rowF i (u := .map (some b5)) (by rw [mapsV, List.getElem?_map, List.getElem?_eq_getElem him, hb5]; rfl)).1
  have HB5 := hide (show ∃ h : i < ms.length, ms[i] = b5 from ⟨him, hb5⟩)
  have HCT := hide (fun W (hW : Ext (w.alloc (.cells #[.int .i64 (i : Int), .int .i64 5, .int .i64 2, .int .i64 5, .int .i64 c, .string (str [111, 117, 116]), .string ⟨#[]⟩, .slice none 0 0] stT)) W) => cont_not Ae E ce _ d.execs (i : Int) W (hW.reads (Reads.of_own h1.rowE) (Nat.le_refl _)) (by simp only [maxLen]; omega) hne)
  have H1 := hide h1
  have HFD := hide hfd
  have HLA := hide hl1
  clear hl1
  clear h h1 hx0 hne hf hid him hb5 hfd
  go_enter Try.func8, Try.ntmps8
  go_upto_region 1 with fail
  generalize w.alloc (.cells #[.int .i64 (i : Int), .int .i64 5, .int .i64 2, .int .i64 5, .int .i64 c, .string (str [111, 117, 116]), .string ⟨#[]⟩, .slice none 0 0] stT) = W at *
  generalize w.heap.size = gs at *
  have p0 : W.cell? ⟨gs, 0, none⟩ = some (.int .i64 (i : Int)) := hb0.cell 0
  have p1 : W.cell? ⟨gs, 1, none⟩ = some (.int .i64 5) := hb0.cell 1
  have p2 : W.cell? ⟨gs, 2, none⟩ = some (.int .i64 2) := hb0.cell 2
  have p3 : W.cell? ⟨gs, 3, none⟩ = some (.int .i64 5) := hb0.cell 3
  have p4 : W.cell? ⟨gs, 4, none⟩ = some (.int .i64 c) := hb0.cell 4
  have p5 : W.cell? ⟨gs, 5, none⟩ = some (.string (str [111, 117, 116])) := hb0.cell 5
  have p6 : W.cell? ⟨gs, 6, none⟩ = some (.string ⟨#[]⟩) := hb0.cell 6
  have p7 : W.cell? ⟨gs, 7, none⟩ = some (.slice none 0 0) := hb0.cell 7
  have HBS := hide hb0
  have q0 : W.cell? ⟨gw, 0, none⟩ = some (.slice (some ⟨gf, 0, none⟩) N cf) := H1.out.box.cell 0
  have q2 : W.cell? ⟨gw, 2, none⟩ = some (.slice Ae E ce) := H1.out.box.cell 2
  have t1 : decide ((i : Int) < 0) = false := decide_eq_false (by omega)
  have t2 : decide ((N : Int) ≤ (i : Int)) = false := decide_eq_false (by omega)
  have t3 : decide (N ≤ i) = false := decide_eq_false (by omega)
  have t4 : (0 : Int) ≤ (i : Int) := by omega
  have t5 : (i : Int) < (N : Int) := by omega
  clear hb0
  go_quiet ((go_at_call 14; exact quiet_left (HCT.out _ ((Ext.refl _).drewN _))))
  have HXQ := hide ((Ext.refl W).drewN nq)
  have H2 := hide (H1.out.to HXQ.out)
  have HBS2 := hide (HBS.out.ext HXQ.out)
  have HFD2 := hide (HFD.out.ext HXQ.out)
  replace p0 := HXQ.out.cell p0
  replace p1 := HXQ.out.cell p1
  replace p2 := HXQ.out.cell p2
  replace p3 := HXQ.out.cell p3
  replace p4 := HXQ.out.cell p4
  replace p5 := HXQ.out.cell p5
  replace p6 := HXQ.out.cell p6
  replace p7 := HXQ.out.cell p7
  replace q0 := HXQ.out.cell q0
  replace q2 := HXQ.out.cell q2
  replace q5 := HXQ.out.cell q5
  generalize W.drewN nq = W2 at *
  clear HCT H1 HBS HFD HXQ
  go_upto_region 3 with fail
  go_region_held3 (fun w' => w'.cell? ⟨gs, 0, none⟩ = some (.int .i64 (i : Int)) ∧ w'.cell? ⟨gs, 1, none⟩ = some (.int .i64 5) ∧ w'.cell? ⟨gs, 2, none⟩ = some (.int .i64 2) ∧ w'.cell? ⟨gs, 3, none⟩ = some (.int .i64 5) ∧ w'.cell? ⟨gs, 4, none⟩ = some (.int .i64 c) ∧ w'.cell? ⟨gs, 5, none⟩ = some (.string (str [111, 117, 116])) ∧ w'.cell? ⟨gs, 6, none⟩ = some (.string ⟨#[]⟩) ∧ w'.cell? ⟨gs, 7, none⟩ = some (.slice none 0 0) ∧ w'.cell? ⟨gw, 0, none⟩ = some (.slice (some ⟨gf, 0, none⟩) N cf) ∧ w'.cell? ⟨gf, i, none⟩ = some (.map (some b5)))
    (first | exact ⟨p0, p1, p2, p3, p4, p5, p6, p7, q0, q5⟩ | (refine ⟨Ext.cell (w := W2) ?_ p0, Ext.cell (w := W2) ?_ p1, Ext.cell (w := W2) ?_ p2, Ext.cell (w := W2) ?_ p3, Ext.cell (w := W2) ?_ p4, Ext.cell (w := W2) ?_ p5, Ext.cell (w := W2) ?_ p6, Ext.cell (w := W2) ?_ p7, Ext.cell (w := W2) ?_ q0, Ext.cell (w := W2) ?_ q5⟩ <;> ((repeat (first | with_reducible exact Ext.refl _ | with_reducible assumption | with_reducible refine Ext.alloc ?_ _ | with_reducible refine Ext.drew ?_ | with_reducible refine Ext.drewN ?_ _ | with_reducible refine Ext.setCell ?_ (by first | exact Nat.le_refl _ | assumption | (simp; done) | omega) _ | with_reducible refine Ext.trans ?_ (by with_reducible assumption))); done)) | fail)
    (fail)
  have hxa := ((Ext.refl W2).alloc (.cells #[.int .i64 5, .int .i64 2, .int .i64 5, .int .i64 c, .string (str [111, 117, 116]), .string ⟨#[]⟩, .slice none 0 0] caT)).drew
  have hbc := (Blk.new W2 caT #[.int .i64 5, .int .i64 2, .int .i64 5, .int .i64 c, .string (str [111, 117, 116]), .string ⟨#[]⟩, .slice none 0 0]).drew
  have H3 := hide (H2.out.to hxa)
  have HBS3 := hide (HBS2.out.ext hxa)
  have HFD3 := hide (HFD2.out.ext hxa)
  generalize (W2.alloc (.cells #[.int .i64 5, .int .i64 2, .int .i64 5, .int .i64 c, .string (str [111, 117, 116]), .string ⟨#[]⟩, .slice none 0 0] caT)).drew = W3 at *
  generalize W2.heap.size = gc at *
  have HBC := hide hbc
  have HSC := hide (show gs ≠ gc from Blk.ne_ HBS3.out HBC.out (by decide))
  have HWS := hide (show gw ≠ gs from Blk.ne_ H3.out.box HBS3.out (by decide))
  have HWC := hide (show gw ≠ gc from Blk.ne_ H3.out.box HBC.out (by decide))
  have p0 : W3.cell? ⟨gs, 0, none⟩ = some (.int .i64 (i : Int)) := HBS3.out.cell 0
  have c0 : W3.cell? ⟨gc, 0, none⟩ = some (.int .i64 5) := HBC.out.cell 0
  have c1 : W3.cell? ⟨gc, 1, none⟩ = some (.int .i64 2) := HBC.out.cell 1
  have c2 : W3.cell? ⟨gc, 2, none⟩ = some (.int .i64 5) := HBC.out.cell 2
  have c4 : W3.cell? ⟨gc, 4, none⟩ = some (.string (str [111, 117, 116])) := HBC.out.cell 4
  have q0 : W3.cell? ⟨gw, 0, none⟩ = some (.slice (some ⟨gf, 0, none⟩) N cf) := H3.out.box.cell 0
  have q1 : W3.cell? ⟨gw, 1, none⟩ = some (.int .i64 (d.pipes : Int)) := H3.out.box.cell 1
  have q2 : W3.cell? ⟨gw, 2, none⟩ = some (.slice Ae E ce) := H3.out.box.cell 2
  have q3 : W3.cell? ⟨gw, 3, none⟩ = some (.int .i64 (d.waits : Int)) := H3.out.box.cell 3
  have f0 := H3.out.box.frozen 0
  have f1 := H3.out.box.frozen 1
  have f2 := H3.out.box.frozen 2
  have f3 := H3.out.box.frozen 3
  clear hbc hxa H2 HBS2 HFD2 q5 p1 p2 p3 p4 p5 p6 p7
  have HIA := hide (fun W => itoa_digit 2 (by omega) W)
  have HIB := hide (fun W => itoa_digit 5 (by omega) W)
  have HLC := hide (pleast_any f b5 K W3.drew (HFD3.out.ext (Ext.refl W3).drew) HLA.out)
  have hap0 : (⟨#[102, 105, 108, 101, 32]⟩ : ByteArray) ++ str [111, 117, 116] = str [102, 105, 108, 101, 32, 111, 117, 116] := str_append [102, 105, 108, 101, 32] [111, 117, 116]
  have hap1 : str [102, 105, 108, 101, 32, 111, 117, 116] ++ str (digit 2) = str [102, 105, 108, 101, 32, 111, 117, 116, 50] := str_append _ _
  have hap2 : str [102, 105, 108, 101, 32, 111, 117, 116, 50] ++ (⟨#[32]⟩ : ByteArray) = str [102, 105, 108, 101, 32, 111, 117, 116, 50, 32] := str_append _ [32]
  have hap3 : str [102, 105, 108, 101, 32, 111, 117, 116, 50, 32] ++ str (digit 5) = str (tokS .fout) := str_append _ _
  have hs0 : ∀ W : World, (Op.stringOp .add (⟨#[102, 105, 108, 101, 32]⟩ : ByteArray) (str [111, 117, 116])).run Try.prog W = .ok (.string (str [102, 105, 108, 101, 32, 111, 117, 116])) W := fun W => by rw [← hap0]; exact run_string_add_sum W _ _ (by decide)
  have hs1 : ∀ W : World, (Op.stringOp .add (str [102, 105, 108, 101, 32, 111, 117, 116]) (str (digit 2))).run Try.prog W = .ok (.string (str [102, 105, 108, 101, 32, 111, 117, 116, 50])) W := fun W => by rw [← hap1]; exact run_string_add_sum W _ _ (by decide)
  have hs2 : ∀ W : World, (Op.stringOp .add (str [102, 105, 108, 101, 32, 111, 117, 116, 50]) (⟨#[32]⟩ : ByteArray)).run Try.prog W = .ok (.string (str [102, 105, 108, 101, 32, 111, 117, 116, 50, 32])) W := fun W => by rw [← hap2]; exact run_string_add_sum W _ _ (by decide)
  have hs3 : ∀ W : World, (Op.stringOp .add (str [102, 105, 108, 101, 32, 111, 117, 116, 50, 32]) (str (digit 5))).run Try.prog W = .ok (.string (str (tokS .fout))) W := fun W => by rw [← hap3]; exact run_string_add_sum W _ _ (by decide)
  clear hap0 hap1 hap2 hap3
  obtain ⟨n1, hn1⟩ : ∃ n1, leastT f = n1 := ⟨_, rfl⟩
  rw [hn1] at HLC
  have HN1 := hide hn1
  have hn8 : n1 < 8 := by rw [← hn1]; exact HLA.out
  clear hn1
  go_upto_region 28 with fail
  go_region_held3 (fun w' => w'.cell? ⟨gc, 4, none⟩ = some (.string (str [111, 117, 116])) ∧ w'.cell? ⟨gc, 1, none⟩ = some (.int .i64 2) ∧ w'.cell? ⟨gc, 2, none⟩ = some (.int .i64 5))
    (first | exact ⟨c4, c1, c2⟩ | exact hk9 | (refine ⟨Ext.cell (w := W3) ?_ c4, Ext.cell (w := W3) ?_ c1, Ext.cell (w := W3) ?_ c2⟩ <;> ((repeat (first | with_reducible exact Ext.refl _ | with_reducible assumption | with_reducible refine Ext.alloc ?_ _ | with_reducible refine Ext.drew ?_ | with_reducible refine Ext.drewN ?_ _ | with_reducible refine Ext.setCell ?_ (by first | exact Nat.le_refl _ | assumption | (simp; done) | omega) _ | with_reducible refine Ext.trans ?_ (by with_reducible assumption))); done)) | fail)
    (first
      | (go_at_call_of 15 (Value.map (some b5)); refine HLC.out.mono ?_; rintro e w6 ⟨rfl, hw6⟩; subst hw6)
      | (go_at_call_of 6 (Value.int IntKind.i64 2); refine (HIA.out _).mono ?_; rintro e w7 ⟨rfl, hx7⟩; have hx7' := (Ext.refl W3).drew.trans hx7)
      | (go_at_call_of 6 (Value.int IntKind.i64 5); refine (HIB.out _).mono ?_; rintro e w8 ⟨rfl, hx8⟩; have hx8' := hx7'.trans hx8; have H8 := hide (H3.out.to hx8'); obtain ⟨W9, hput, hm9, hg9⟩ := (HFD3.out.ext hx8').put (by simp only [maxLen]; omega) n1 hn8 .fout (by simp) (tokS_len _); have hb9 := (HBC.out.ext hx8').grown hg9 (fun e => (HFD3.out.ext hx8').ne_blk (HBC.out.ext hx8') (by injection e with e; exact e.symm)); have hk9 : W9.cell? ⟨gc, 4, none⟩ = some (.string (str [111, 117, 116])) ∧ W9.cell? ⟨gc, 1, none⟩ = some (.int .i64 2) ∧ W9.cell? ⟨gc, 2, none⟩ = some (.int .i64 5) := ⟨hb9.cell 4, hb9.cell 1, hb9.cell 2⟩)
      | fail)
  obtain ⟨him, hb5⟩ := HB5.out
  have HN := hide (H8.out.turn i him (Nat.le_succ K) (f := f.set (leastT f) .fout) (by rw [hb5, HN1.out]; exact hm9) (by rw [hb5]; exact hg9))
  have hlen := fun ty => hm9.lenI ty
  have hct := hm9.cnt
  generalize cntT (f.set n1 .fout) = ct at *
  have t7 : decide ((ct : Int) ≤ 8) = true := decide_eq_true (by omega)
  clear hm9 hg9 hb9 hk9 hb5 hs0 hs1 hs2 hs3
  go_wp2_with fail
  go_ret
  exact ⟨rfl, N, E, ms, _, cf, Ae, ce, HN.out⟩
set_option maxHeartbeats 8000000 in
set_option maxRecDepth 100000 in
theorem step_open_more (w0 wb w : World) (be gw K N E i : Nat) (d : WT) (ms : List Nat) (Af Ae : Option Addr) (cf ce : Nat) (f : FdT) (a b c : Int) (name : BsI) (h : WAt w0 wb be gw K N E d ms Af cf Ae ce w) (hi : i < N) (hne : (i : Int) ∉ d.execs) (hf : d.fds[i]? = some f) (hN : N ≤ 20) (hE : E ≤ 20) (hK : K ≤ 100000) (hl1 : leastT f < 8) :
    Calls Try.prog 8 #[.pointer (some ⟨gw, 0, none⟩), .agg #[.int .i64 (i : Int), .int .i64 5, .int .i64 2, .int .i64 9, .int .i64 c, .string (str [111, 117, 116]), .string ⟨#[]⟩, .slice none 0 0]] w (StOut w0 wb be gw (K + 1) { d with fds := d.fds.set i (f.set (leastT f) .foutm) }) := by
  have hx0 := (Ext.refl w).alloc (.cells #[.int .i64 (i : Int), .int .i64 5, .int .i64 2, .int .i64 9, .int .i64 c, .string (str [111, 117, 116]), .string ⟨#[]⟩, .slice none 0 0] stT)
  have hb0 := Blk.new w stT #[.int .i64 (i : Int), .int .i64 5, .int .i64 2, .int .i64 9, .int .i64 c, .string (str [111, 117, 116]), .string ⟨#[]⟩, .slice none 0 0]
  have h1 := h.to hx0
  have hid : i < d.fds.length := by rw [h.lf]; exact hi
  have him : i < ms.length := by rw [h.lm]; exact hi
  obtain ⟨b5, hb5⟩ : ∃ b5, ms[i] = b5 := ⟨_, rfl⟩
  have hfd : FdAt (w.alloc (.cells #[.int .i64 (i : Int), .int .i64 5, .int .i64 2, .int .i64 9, .int .i64 c, .string (str [111, 117, 116]), .string ⟨#[]⟩, .slice none 0 0] stT)) b5 K f := by
    have := h1.each i him hid
    rw [hb5] at this
    rwa [show d.fds[i] = f by rw [List.getElem?_eq_getElem hid] at hf; injection hf] at this
  obtain ⟨gf, rfl, -⟩ := own_addr h1.rowF (by omega)
  have q5 := (own_cell h1.rowF i (u := .map (some b5)) (by rw [mapsV, List.getElem?_map, List.getElem?_eq_getElem him, hb5]; rfl)).1
  have HB5 := hide (show ∃ h : i < ms.length, ms[i] = b5 from ⟨him, hb5⟩)
  have HCT := hide (fun W (hW : Ext (w.alloc (.cells #[.int .i64 (i : Int), .int .i64 5, .int .i64 2, .int .i64 9, .int .i64 c, .string (str [111, 117, 116]), .string ⟨#[]⟩, .slice none 0 0] stT)) W) => cont_not Ae E ce _ d.execs (i : Int) W (hW.reads (Reads.of_own h1.rowE) (Nat.le_refl _)) (by simp only [maxLen]; omega) hne)
  have H1 := hide h1
  have HFD := hide hfd
  have HLA := hide hl1
  clear hl1
  clear h h1 hx0 hne hf hid him hb5 hfd
  go_enter Try.func8, Try.ntmps8
  go_upto_region 1 with fail
  generalize w.alloc (.cells #[.int .i64 (i : Int), .int .i64 5, .int .i64 2, .int .i64 9, .int .i64 c, .string (str [111, 117, 116]), .string ⟨#[]⟩, .slice none 0 0] stT) = W at *
  generalize w.heap.size = gs at *
  have p0 : W.cell? ⟨gs, 0, none⟩ = some (.int .i64 (i : Int)) := hb0.cell 0
  have p1 : W.cell? ⟨gs, 1, none⟩ = some (.int .i64 5) := hb0.cell 1
  have p2 : W.cell? ⟨gs, 2, none⟩ = some (.int .i64 2) := hb0.cell 2
  have p3 : W.cell? ⟨gs, 3, none⟩ = some (.int .i64 9) := hb0.cell 3
  have p4 : W.cell? ⟨gs, 4, none⟩ = some (.int .i64 c) := hb0.cell 4
  have p5 : W.cell? ⟨gs, 5, none⟩ = some (.string (str [111, 117, 116])) := hb0.cell 5
  have p6 : W.cell? ⟨gs, 6, none⟩ = some (.string ⟨#[]⟩) := hb0.cell 6
  have p7 : W.cell? ⟨gs, 7, none⟩ = some (.slice none 0 0) := hb0.cell 7
  have HBS := hide hb0
  have q0 : W.cell? ⟨gw, 0, none⟩ = some (.slice (some ⟨gf, 0, none⟩) N cf) := H1.out.box.cell 0
  have q2 : W.cell? ⟨gw, 2, none⟩ = some (.slice Ae E ce) := H1.out.box.cell 2
  have t1 : decide ((i : Int) < 0) = false := decide_eq_false (by omega)
  have t2 : decide ((N : Int) ≤ (i : Int)) = false := decide_eq_false (by omega)
  have t3 : decide (N ≤ i) = false := decide_eq_false (by omega)
  have t4 : (0 : Int) ≤ (i : Int) := by omega
  have t5 : (i : Int) < (N : Int) := by omega
  clear hb0
  go_quiet ((go_at_call 14; exact quiet_left (HCT.out _ ((Ext.refl _).drewN _))))
  have HXQ := hide ((Ext.refl W).drewN nq)
  have H2 := hide (H1.out.to HXQ.out)
  have HBS2 := hide (HBS.out.ext HXQ.out)
  have HFD2 := hide (HFD.out.ext HXQ.out)
  replace p0 := HXQ.out.cell p0
  replace p1 := HXQ.out.cell p1
  replace p2 := HXQ.out.cell p2
  replace p3 := HXQ.out.cell p3
  replace p4 := HXQ.out.cell p4
  replace p5 := HXQ.out.cell p5
  replace p6 := HXQ.out.cell p6
  replace p7 := HXQ.out.cell p7
  replace q0 := HXQ.out.cell q0
  replace q2 := HXQ.out.cell q2
  replace q5 := HXQ.out.cell q5
  generalize W.drewN nq = W2 at *
  clear HCT H1 HBS HFD HXQ
  go_upto_region 3 with fail
  go_region_held3 (fun w' => w'.cell? ⟨gs, 0, none⟩ = some (.int .i64 (i : Int)) ∧ w'.cell? ⟨gs, 1, none⟩ = some (.int .i64 5) ∧ w'.cell? ⟨gs, 2, none⟩ = some (.int .i64 2) ∧ w'.cell? ⟨gs, 3, none⟩ = some (.int .i64 9) ∧ w'.cell? ⟨gs, 4, none⟩ = some (.int .i64 c) ∧ w'.cell? ⟨gs, 5, none⟩ = some (.string (str [111, 117, 116])) ∧ w'.cell? ⟨gs, 6, none⟩ = some (.string ⟨#[]⟩) ∧ w'.cell? ⟨gs, 7, none⟩ = some (.slice none 0 0) ∧ w'.cell? ⟨gw, 0, none⟩ = some (.slice (some ⟨gf, 0, none⟩) N cf) ∧ w'.cell? ⟨gf, i, none⟩ = some (.map (some b5)))
    (first | exact ⟨p0, p1, p2, p3, p4, p5, p6, p7, q0, q5⟩ | (refine ⟨Ext.cell (w := W2) ?_ p0, Ext.cell (w := W2) ?_ p1, Ext.cell (w := W2) ?_ p2, Ext.cell (w := W2) ?_ p3, Ext.cell (w := W2) ?_ p4, Ext.cell (w := W2) ?_ p5, Ext.cell (w := W2) ?_ p6, Ext.cell (w := W2) ?_ p7, Ext.cell (w := W2) ?_ q0, Ext.cell (w := W2) ?_ q5⟩ <;> ((repeat (first | with_reducible exact Ext.refl _ | with_reducible assumption | with_reducible refine Ext.alloc ?_ _ | with_reducible refine Ext.drew ?_ | with_reducible refine Ext.drewN ?_ _ | with_reducible refine Ext.setCell ?_ (by first | exact Nat.le_refl _ | assumption | (simp; done) | omega) _ | with_reducible refine Ext.trans ?_ (by with_reducible assumption))); done)) | fail)
    (fail)
  have hxa := ((Ext.refl W2).alloc (.cells #[.int .i64 5, .int .i64 2, .int .i64 9, .int .i64 c, .string (str [111, 117, 116]), .string ⟨#[]⟩, .slice none 0 0] caT)).drew
  have hbc := (Blk.new W2 caT #[.int .i64 5, .int .i64 2, .int .i64 9, .int .i64 c, .string (str [111, 117, 116]), .string ⟨#[]⟩, .slice none 0 0]).drew
  have H3 := hide (H2.out.to hxa)
  have HBS3 := hide (HBS2.out.ext hxa)
  have HFD3 := hide (HFD2.out.ext hxa)
  generalize (W2.alloc (.cells #[.int .i64 5, .int .i64 2, .int .i64 9, .int .i64 c, .string (str [111, 117, 116]), .string ⟨#[]⟩, .slice none 0 0] caT)).drew = W3 at *
  generalize W2.heap.size = gc at *
  have HBC := hide hbc
  have HSC := hide (show gs ≠ gc from Blk.ne_ HBS3.out HBC.out (by decide))
  have HWS := hide (show gw ≠ gs from Blk.ne_ H3.out.box HBS3.out (by decide))
  have HWC := hide (show gw ≠ gc from Blk.ne_ H3.out.box HBC.out (by decide))
  have p0 : W3.cell? ⟨gs, 0, none⟩ = some (.int .i64 (i : Int)) := HBS3.out.cell 0
  have c0 : W3.cell? ⟨gc, 0, none⟩ = some (.int .i64 5) := HBC.out.cell 0
  have c1 : W3.cell? ⟨gc, 1, none⟩ = some (.int .i64 2) := HBC.out.cell 1
  have c2 : W3.cell? ⟨gc, 2, none⟩ = some (.int .i64 9) := HBC.out.cell 2
  have c4 : W3.cell? ⟨gc, 4, none⟩ = some (.string (str [111, 117, 116])) := HBC.out.cell 4
  have q0 : W3.cell? ⟨gw, 0, none⟩ = some (.slice (some ⟨gf, 0, none⟩) N cf) := H3.out.box.cell 0
  have q1 : W3.cell? ⟨gw, 1, none⟩ = some (.int .i64 (d.pipes : Int)) := H3.out.box.cell 1
  have q2 : W3.cell? ⟨gw, 2, none⟩ = some (.slice Ae E ce) := H3.out.box.cell 2
  have q3 : W3.cell? ⟨gw, 3, none⟩ = some (.int .i64 (d.waits : Int)) := H3.out.box.cell 3
  have f0 := H3.out.box.frozen 0
  have f1 := H3.out.box.frozen 1
  have f2 := H3.out.box.frozen 2
  have f3 := H3.out.box.frozen 3
  clear hbc hxa H2 HBS2 HFD2 q5 p1 p2 p3 p4 p5 p6 p7
  have HIA := hide (fun W => itoa_digit 2 (by omega) W)
  have HIB := hide (fun W => itoa_digit 9 (by omega) W)
  have HLC := hide (pleast_any f b5 K W3.drew (HFD3.out.ext (Ext.refl W3).drew) HLA.out)
  have hap0 : (⟨#[102, 105, 108, 101, 32]⟩ : ByteArray) ++ str [111, 117, 116] = str [102, 105, 108, 101, 32, 111, 117, 116] := str_append [102, 105, 108, 101, 32] [111, 117, 116]
  have hap1 : str [102, 105, 108, 101, 32, 111, 117, 116] ++ str (digit 2) = str [102, 105, 108, 101, 32, 111, 117, 116, 50] := str_append _ _
  have hap2 : str [102, 105, 108, 101, 32, 111, 117, 116, 50] ++ (⟨#[32]⟩ : ByteArray) = str [102, 105, 108, 101, 32, 111, 117, 116, 50, 32] := str_append _ [32]
  have hap3 : str [102, 105, 108, 101, 32, 111, 117, 116, 50, 32] ++ str (digit 9) = str (tokS .foutm) := str_append _ _
  have hs0 : ∀ W : World, (Op.stringOp .add (⟨#[102, 105, 108, 101, 32]⟩ : ByteArray) (str [111, 117, 116])).run Try.prog W = .ok (.string (str [102, 105, 108, 101, 32, 111, 117, 116])) W := fun W => by rw [← hap0]; exact run_string_add_sum W _ _ (by decide)
  have hs1 : ∀ W : World, (Op.stringOp .add (str [102, 105, 108, 101, 32, 111, 117, 116]) (str (digit 2))).run Try.prog W = .ok (.string (str [102, 105, 108, 101, 32, 111, 117, 116, 50])) W := fun W => by rw [← hap1]; exact run_string_add_sum W _ _ (by decide)
  have hs2 : ∀ W : World, (Op.stringOp .add (str [102, 105, 108, 101, 32, 111, 117, 116, 50]) (⟨#[32]⟩ : ByteArray)).run Try.prog W = .ok (.string (str [102, 105, 108, 101, 32, 111, 117, 116, 50, 32])) W := fun W => by rw [← hap2]; exact run_string_add_sum W _ _ (by decide)
  have hs3 : ∀ W : World, (Op.stringOp .add (str [102, 105, 108, 101, 32, 111, 117, 116, 50, 32]) (str (digit 9))).run Try.prog W = .ok (.string (str (tokS .foutm))) W := fun W => by rw [← hap3]; exact run_string_add_sum W _ _ (by decide)
  clear hap0 hap1 hap2 hap3
  obtain ⟨n1, hn1⟩ : ∃ n1, leastT f = n1 := ⟨_, rfl⟩
  rw [hn1] at HLC
  have HN1 := hide hn1
  have hn8 : n1 < 8 := by rw [← hn1]; exact HLA.out
  clear hn1
  go_upto_region 28 with fail
  go_region_held3 (fun w' => w'.cell? ⟨gc, 4, none⟩ = some (.string (str [111, 117, 116])) ∧ w'.cell? ⟨gc, 1, none⟩ = some (.int .i64 2) ∧ w'.cell? ⟨gc, 2, none⟩ = some (.int .i64 9))
    (first | exact ⟨c4, c1, c2⟩ | exact hk9 | (refine ⟨Ext.cell (w := W3) ?_ c4, Ext.cell (w := W3) ?_ c1, Ext.cell (w := W3) ?_ c2⟩ <;> ((repeat (first | with_reducible exact Ext.refl _ | with_reducible assumption | with_reducible refine Ext.alloc ?_ _ | with_reducible refine Ext.drew ?_ | with_reducible refine Ext.drewN ?_ _ | with_reducible refine Ext.setCell ?_ (by first | exact Nat.le_refl _ | assumption | (simp; done) | omega) _ | with_reducible refine Ext.trans ?_ (by with_reducible assumption))); done)) | fail)
    (first
      | (go_at_call_of 15 (Value.map (some b5)); refine HLC.out.mono ?_; rintro e w6 ⟨rfl, hw6⟩; subst hw6)
      | (go_at_call_of 6 (Value.int IntKind.i64 2); refine (HIA.out _).mono ?_; rintro e w7 ⟨rfl, hx7⟩; have hx7' := (Ext.refl W3).drew.trans hx7)
      | (go_at_call_of 6 (Value.int IntKind.i64 9); refine (HIB.out _).mono ?_; rintro e w8 ⟨rfl, hx8⟩; have hx8' := hx7'.trans hx8; have H8 := hide (H3.out.to hx8'); obtain ⟨W9, hput, hm9, hg9⟩ := (HFD3.out.ext hx8').put (by simp only [maxLen]; omega) n1 hn8 .foutm (by simp) (tokS_len _); have hb9 := (HBC.out.ext hx8').grown hg9 (fun e => (HFD3.out.ext hx8').ne_blk (HBC.out.ext hx8') (by injection e with e; exact e.symm)); have hk9 : W9.cell? ⟨gc, 4, none⟩ = some (.string (str [111, 117, 116])) ∧ W9.cell? ⟨gc, 1, none⟩ = some (.int .i64 2) ∧ W9.cell? ⟨gc, 2, none⟩ = some (.int .i64 9) := ⟨hb9.cell 4, hb9.cell 1, hb9.cell 2⟩)
      | fail)
  obtain ⟨him, hb5⟩ := HB5.out
  have HN := hide (H8.out.turn i him (Nat.le_succ K) (f := f.set (leastT f) .foutm) (by rw [hb5, HN1.out]; exact hm9) (by rw [hb5]; exact hg9))
  have hlen := fun ty => hm9.lenI ty
  have hct := hm9.cnt
  generalize cntT (f.set n1 .foutm) = ct at *
  have t7 : decide ((ct : Int) ≤ 8) = true := decide_eq_true (by omega)
  clear hm9 hg9 hb9 hk9 hb5 hs0 hs1 hs2 hs3
  go_wp2_with fail
  go_ret
  exact ⟨rfl, N, E, ms, _, cf, Ae, ce, HN.out⟩
end Go.Proofs.Ytikpdhkjkmbomaa
