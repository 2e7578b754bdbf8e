/- The walk of StreamTalks. -/
import Derived.Test.YtkfpmljlgpobjaaResetW
import Derived.Test.YtkfpmljlgpobjaaPartP
namespace Go.Proofs.Ytkfpmljlgpobjaa
open Go.RowKit
set_option linter.unusedVariables false

theorem write_opn (X Y : Int) {ds : List UInt8} (h : ds.length ≤ 64) : (writeE (opn X Y false) ds).1 = full X Y ds ∧ (writeE (opn X Y false) ds).2.1 = ds.length := by
  have hn : wrN (opn X Y false) ds.length = ds.length := by unfold wrN opn; simp; omega
  unfold writeE
  rw [if_neg (by simp [opn]), if_neg (by simp [opn, begunB]), if_neg (by simp [opn])]
  refine ⟨?_, hn⟩
  unfold wrTo
  rw [hn]
  unfold opn full
  simp
theorem toT_write (d : PairD) (xs ys : List UInt8) : toT (writeI (writeI d 0 xs) 1 ys) = ⟨(writeE (d.e 0) xs).1, (writeE (d.e 1) ys).1, d.y 0, d.y 1, d.p 0 ++ xs.take (writeE (d.e 0) xs).2.1, d.p 1 ++ ys.take (writeE (d.e 1) ys).2.1, d.g 0, d.g 1⟩ := by
  simp [toT, writeI, upd]
theorem sound_of {d : PairD} {t : PairT} (h : toT d = t) (l0 : Live t.x0) (l1 : Live t.x1) {Y G : Nat} (y0 : t.y0.length ≤ Y) (y1 : t.y1.length ≤ Y) (g0 : t.g0.length ≤ G) (g1 : t.g1.length ≤ G) : Sound d Y G := by
  subst h
  refine ⟨fun i hi => ?_, fun i hi => ?_, fun i hi => ?_⟩ <;> rcases lt2 hi with rfl | rfl
  · exact l0
  · exact l1
  · exact y0
  · exact y1
  · exact g0
  · exact g1
theorem PairAt.shut {w0 w : World} {gp : Nat} {b : Nat → Nat} {d : PairD} (h : PairAt w0 gp b d w) {i : Nat} (hi : i < 2) :
    Calls Try.prog 20 #[.pointer (some ⟨b i, 0, none⟩)] w fun r w' => r = .returned (.int .i64 (shutE (d.e i)).2) ∧ PairAt w0 gp b { d with e := upd d.e i (shutE (d.e i)).1 } w' := by
  obtain ⟨L, h, rfl⟩ := h
  refine (shut_any w (L.b i) (d.e i) (L.vo i) (L.vi i) (h.end_ i hi)).mono ?_
  rintro r w' ⟨rfl, hop⟩
  have ok := h.ok i hi
  have ok' : (shutE (d.e i)).1.Ok := by
    unfold shutE
    split
    · exact ok
    · exact ⟨ok.st, ok.una, ok.nxt, ok.top, ok.first, ok.rcv, ok.out, ok.inn, ok.peer, ok.wait, ok.tries⟩
  obtain ⟨L', h1, h2, -⟩ := h.endOp hi ok' hop
  exact ⟨rfl, L', h1, h2⟩
theorem PairAt.ended {w0 w : World} {gp : Nat} {b : Nat → Nat} {d : PairD} (h : PairAt w0 gp b d w) {i : Nat} (hi : i < 2) :
    Calls Try.prog 21 #[.pointer (some ⟨b i, 0, none⟩)] w fun r w' => r = .returned (.tuple #[.bool (d.e i).fin, .bool (endedE (d.e i))]) ∧ PairAt w0 gp b d w' := by
  obtain ⟨L, h, rfl⟩ := h
  refine (ended_any w (L.b i) (d.e i) (L.vo i) (L.vi i) (h.end_ i hi) (h.ok i hi)).mono ?_
  rintro r w' ⟨rfl, n, rfl⟩
  exact ⟨rfl, L, h.extend ((Ext.refl w).drewN n), rfl⟩
theorem PairAt.extend {w0 w w' : World} {gp : Nat} {b : Nat → Nat} {d : PairD} (h : PairAt w0 gp b d w) (hx : Ext w w') : PairAt w0 gp b d w' := by
  obtain ⟨L, h, hb⟩ := h
  exact ⟨L, h.extend hx, hb⟩
theorem PairAt.gots {w0 w : World} {gp : Nat} {b : Nat → Nat} {d : PairD} (h : PairAt w0 gp b d w) : w.cell? ⟨gp, 6, none⟩ = some (.string (str (d.g 0))) ∧ w.cell? ⟨gp, 7, none⟩ = some (.string (str (d.g 1))) := by
  obtain ⟨L, h, hb⟩ := h
  exact ⟨h.box.cell 6, h.box.cell 7⟩
theorem shut_opn (X Y : Int) : shutE (opn X Y false) = (opnS X Y, 0) := by
  unfold shutE
  rw [if_neg (by simp [opn, begunB])]
  rfl
set_option maxHeartbeats 4000000 in
set_option maxRecDepth 100000 in
theorem talks_walk (a b : Int) (ha : U32 a) (hb : U32 b) (A : Option Addr) (n c : Nat) (xs : List UInt8) (A' : Option Addr) (n' c' : Nat) (ys : List UInt8) (w : World) (hr : Reads w w.heap.size 1 A n (bytesV xs)) (hn : n ≤ c) (hc : c ≤ maxLen) (hr' : Reads w w.heap.size 1 A' n' (bytesV ys)) (hn' : n' ≤ c') (hc' : c' ≤ maxLen) :
    Calls Try.prog 6 #[.int .u32 a, .int .u32 b, .slice A n c, .slice A' n' c'] w fun r w' => r = .returned (.bool true) ∧ Ext w w' := by
  have HA := hide ha
  have HB := hide hb
  have HMET := hide (met_d ha hb)
  have HR := hide hr
  have HNC := hide hn
  have HC := hide hc
  have HR' := hide hr'
  have HNC' := hide hn'
  have HC' := hide hc'
  clear ha hb hr hn hc hr' hn' hc'
  go_enter Try.func6, Try.ntmps6
  go_wp2_with fail
  refine (begin_any w a b HA.out HB.out).mono ?_
  rintro r w1 ⟨gp, bb, rfl, hp1⟩
  have HP1 := hide hp1
  clear hp1
  go_wp2_with fail
  refine (cut_any A n c 64 w1 HNC.out HC.out (by omega)).mono ?_
  rintro r w2 ⟨rfl, rfl⟩
  obtain ⟨m, hm⟩ : ∃ x, min n 64 = x := ⟨_, rfl⟩
  have hm64 : m ≤ 64 := by omega
  have hmn : m ≤ n := by omega
  have HMC := hide (show m ≤ c by have := HNC.out; omega)
  have HRM := hide (show Reads w w.heap.size 1 A m (bytesV (xs.take m)) by rw [← bytesV_take]; exact HR.out.take hmn)
  have HXL := hide (show (xs.take m).length = m by have := HR.out.1; rw [bytesV_length] at this; rw [List.length_take]; omega)
  rw [hm]
  clear hm hmn HR
  generalize xs.take m = x at *
  go_wp2_with fail
  refine (cut_any A' n' c' 64 w1 HNC'.out HC'.out (by omega)).mono ?_
  rintro r w2 ⟨rfl, rfl⟩
  obtain ⟨m', hm'⟩ : ∃ x, min n' 64 = x := ⟨_, rfl⟩
  have hm64' : m' ≤ 64 := by omega
  have hmn' : m' ≤ n' := by omega
  have HMC' := hide (show m' ≤ c' by have := HNC'.out; omega)
  have HRM' := hide (show Reads w w.heap.size 1 A' m' (bytesV (ys.take m')) by rw [← bytesV_take]; exact HR'.out.take hmn')
  have HYL := hide (show (ys.take m').length = m' by have := HR'.out.1; rw [bytesV_length] at this; rw [List.length_take]; omega)
  rw [hm']
  clear hm' hmn' HR'
  generalize ys.take m' = y at *
  go_wp2_with fail
  refine (pair_rounds w gp bb (beginP a b) w1 4 HP1.out 0 0 (begin_sound a b) (by omega) (by omega) (by omega)).mono ?_
  rintro r w2 ⟨rfl, hp2⟩
  have HP2 := hide hp2
  clear hp2 HP1
  generalize roundsP 4 (beginP a b) = d at *
  have HX := hide (P1_u a)
  have HY := hide (P1_u b)
  have HM1 := hide (show toT d = ⟨opn (P1 a) (P1 b) false, opn (P1 b) (P1 a) false, [], [], [], [], [], []⟩ from HMET.out)
  generalize P1 a = X at *
  generalize P1 b = Y at *
  clear HMET HA HB
  go_wp2_with fail
  refine (pair_writeA w gp bb d w2 HP2.out (by rw [show d.p 0 = [] from congrArg PairT.p0 HM1.out]; simp) A m c x (HP2.out.ext.reads HRM.out (Nat.le_refl _)) HMC.out (by omega)).mono ?_
  rintro r w4 ⟨rfl, hp4⟩
  have HP4 := hide hp4
  clear hp4 HP2
  go_wp2_with fail
  refine (pair_writeB w gp bb _ w4 HP4.out (by show (d.p 1).length ≤ _; rw [show d.p 1 = [] from congrArg PairT.p1 HM1.out]; simp) A' m' c' y (HP4.out.ext.reads HRM'.out (Nat.le_refl _)) HMC'.out (by omega)).mono ?_
  rintro r w5 ⟨rfl, hp5⟩
  have HP5 := hide hp5
  have hxl : x.length ≤ 64 := by rw [HXL.out]; exact hm64
  have hyl : y.length ≤ 64 := by rw [HYL.out]; exact hm64'
  have HLX := hide hxl
  have HLY := hide hyl
  have HM2 := hide (show toT (writeI (writeI d 0 x) 1 y) = ⟨full X Y x, full Y X y, [], [], [] ++ x.take x.length, [] ++ y.take y.length, [], []⟩ by
    rw [toT_write, show d.e 0 = _ from congrArg PairT.x0 HM1.out, show d.e 1 = _ from congrArg PairT.x1 HM1.out, show d.y 0 = _ from congrArg PairT.y0 HM1.out, show d.y 1 = _ from congrArg PairT.y1 HM1.out, show d.p 0 = _ from congrArg PairT.p0 HM1.out, show d.p 1 = _ from congrArg PairT.p1 HM1.out, show d.g 0 = _ from congrArg PairT.g0 HM1.out, show d.g 1 = _ from congrArg PairT.g1 HM1.out]
    dsimp only
    rw [(write_opn X Y hxl).1, (write_opn Y X hyl).1, (write_opn X Y hxl).2, (write_opn Y X hyl).2])
  clear hp5 HP4 HM1 hxl hyl
  generalize writeI (writeI d 0 x) 1 y = d2 at *
  go_wp2_with fail
  refine (pair_rounds w gp bb d2 w5 12 HP5.out 0 0 (sound_of HM2.out (fun _ => by simp [full]) (fun _ => by simp [full]) (by simp) (by simp) (by simp) (by simp)) (by omega) (by omega) (by omega)).mono ?_
  rintro r w6 ⟨rfl, hp6⟩
  have HP6 := hide hp6
  have HM3 := hide (show toT (roundsP 12 d2) = _ by rw [toT_rounds, HM2.out, talked HX.out HY.out HLX.out HLY.out])
  clear hp6 HP5 HM2
  generalize roundsP 12 d2 = d3 at *
  have HX2 := hide (plus_u X x.length)
  have HY2 := hide (plus_u Y y.length)
  generalize plus X x.length = X' at *
  generalize plus Y y.length = Y' at *
  have HE0 := hide (show d3.e 0 = opn X' Y' false from congrArg PairT.x0 HM3.out)
  have HE1 := hide (show d3.e 1 = opn Y' X' false from congrArg PairT.x1 HM3.out)
  obtain ⟨p0, p1⟩ := HP6.out.ptrs
  go_upto_region 7 with fail
  have HSH0 := hide (fun (W' : World) (hx : Ext w6 W') => show Calls Try.prog 20 #[.pointer (some ⟨bb 0, 0, none⟩)] W' (fun r w' => r = .returned (.int .i64 0) ∧ PairAt w gp bb { d3 with e := upd d3.e 0 (opnS X' Y') } w') from by
    have := (HP6.out.extend hx).shut (i := 0) (by omega)
    rw [HE0.out, shut_opn] at this
    exact this)
  have HSH1 := hide (fun (W W' : World) (hp : PairAt w gp bb { d3 with e := upd d3.e 0 (opnS X' Y') } W) (hx : Ext W W') => show Calls Try.prog 20 #[.pointer (some ⟨bb 1, 0, none⟩)] W' (fun r w' => r = .returned (.int .i64 0) ∧ PairAt w gp bb { d3 with e := upd (upd d3.e 0 (opnS X' Y')) 1 (opnS Y' X') } w') from by
    have := (hp.extend hx).shut (i := 1) (by omega)
    dsimp only at this
    rw [upd_other _ _ (by decide), HE1.out, shut_opn] at this
    exact this)
  obtain ⟨b0, hb0⟩ : ∃ x, bb 0 = x := ⟨_, rfl⟩
  obtain ⟨b1, hb1⟩ : ∃ x, bb 1 = x := ⟨_, rfl⟩
  rw [hb0] at p0 HSH0
  rw [hb1] at p1 HSH1
  have HB0 := hide hb0
  have HB1 := hide hb1
  clear hb0 hb1
  go_region_held3 (fun w' => w'.cell? ⟨gp, 0, none⟩ = some (.pointer (some ⟨b0, 0, none⟩)) ∧ w'.cell? ⟨gp, 1, none⟩ = some (.pointer (some ⟨b1, 0, none⟩))) (first | (refine ⟨?_, ?_⟩ <;> ((repeat (first | with_reducible assumption | (with_reducible refine far3 ?_) | (with_reducible refine far4 ?_) | (with_reducible refine far2 ?_ (by decide) _) | (with_reducible refine far1 ?_ (by dsimp only; omega) _))); done)) | fail)
    (first | (go_at_call 20; refine (HSH1.out w7 _ HP7.out (by ((repeat (first | with_reducible exact Ext.refl _ | with_reducible assumption | with_reducible refine Ext.alloc ?_ _ | with_reducible refine Ext.drew ?_ | with_reducible refine Ext.drewN ?_ _ | with_reducible refine Ext.setCell ?_ (by first | exact Nat.le_refl _ | assumption | (simp; done) | omega) _ | with_reducible refine Ext.trans ?_ (by with_reducible assumption))); done))).mono ?_; rintro r w8 ⟨rfl, hp8⟩; have k8 := hp8.ptrs; rw [HB0.out, HB1.out] at k8; obtain ⟨m0, m1⟩ := k8; have HP8 := hide hp8; clear hp8) | (go_at_call 20; refine (HSH0.out _ (by ((repeat (first | with_reducible exact Ext.refl _ | with_reducible assumption | with_reducible refine Ext.alloc ?_ _ | with_reducible refine Ext.drew ?_ | with_reducible refine Ext.drewN ?_ _ | with_reducible refine Ext.setCell ?_ (by first | exact Nat.le_refl _ | assumption | (simp; done) | omega) _ | with_reducible refine Ext.trans ?_ (by with_reducible assumption))); done))).mono ?_; rintro r w7 ⟨rfl, hp7⟩; have k7 := hp7.ptrs; rw [HB0.out, HB1.out] at k7; obtain ⟨k0, k1⟩ := k7; have HP7 := hide hp7; clear hp7) | fail)
  all_goals
    have HM4 := hide (show toT { d3 with e := upd (upd d3.e 0 (opnS X' Y')) 1 (opnS Y' X') } = ⟨opnS X' Y', opnS Y' X', [], [], [] ++ x.take x.length, [] ++ y.take y.length, [] ++ y, [] ++ x⟩ by
      have := HM3.out
      simp only [toT, PairT.mk.injEq] at this
      obtain ⟨-, -, t3, t4, t5, t6, t7, t8⟩ := this
      simp only [toT, upd_same, upd_other _ _ (show (0 : Nat) ≠ 1 by decide), t3, t4, t5, t6, t7, t8])
    generalize ({ d3 with e := upd (upd d3.e 0 (opnS X' Y')) 1 (opnS Y' X') } : PairD) = d4 at *
    clear HSH0 HSH1 p0 p1 k0 k1 m0 m1
    go_wp2_with fail
    refine (pair_rounds w gp bb d4 w8 8 HP8.out 0 64 (sound_of HM4.out (fun _ => by simp [opnS, opn]) (fun _ => by simp [opnS, opn]) (by simp) (by simp) (by simpa using HLY.out) (by simpa using HLX.out)) (by omega) (by omega) (by omega)).mono ?_
    rintro r w9 ⟨rfl, hp9⟩
    have HP9 := hide hp9
    have HM5 := hide (show toT (roundsP 8 d4) = _ by rw [toT_rounds, HM4.out, parted HX2.out HY2.out])
    have hq9 := hp9.ptrs
    rw [HB0.out, HB1.out] at hq9
    obtain ⟨p0, p1⟩ := hq9
    clear hp9 HP8 HM4
    generalize roundsP 8 d4 = d5 at *
    have HF0 := hide (show d5.e 0 = done X' Y' from congrArg PairT.x0 HM5.out)
    have HF1 := hide (show d5.e 1 = done Y' X' from congrArg PairT.x1 HM5.out)
    have HG0 := hide (show d5.g 0 = y from by have := congrArg PairT.g0 HM5.out; simpa [toT] using this)
    have HG1 := hide (show d5.g 1 = x from by have := congrArg PairT.g1 HM5.out; simpa [toT] using this)
    have HEN0 := hide (show Calls Try.prog 21 #[.pointer (some ⟨b0, 0, none⟩)] w9 (fun r w' => r = .returned (.tuple #[.bool true, .bool true]) ∧ PairAt w gp bb d5 w') from by
      have := HP9.out.ended (i := 0) (by omega)
      rw [HF0.out, done_ended, HB0.out] at this
      exact this)
    have HEN1 := hide (fun (W : World) (hp : PairAt w gp bb d5 W) => show Calls Try.prog 21 #[.pointer (some ⟨b1, 0, none⟩)] W (fun r w' => r = .returned (.tuple #[.bool true, .bool true]) ∧ PairAt w gp bb d5 w') from by
      have := hp.ended (i := 1) (by omega)
      rw [HF1.out, done_ended, HB1.out] at this
      exact this)
    go_wp2_with fail
    refine HEN0.out.mono ?_
    rintro r w10 ⟨rfl, hp10⟩
    have HP10 := hide hp10
    have hq10 := hp10.ptrs
    rw [HB0.out, HB1.out] at hq10
    obtain ⟨q0, q1⟩ := hq10
    clear hp10 HP9 p0 p1
    go_wp2_with fail
    refine (HEN1.out _ HP10.out).mono ?_
    rintro r w11 ⟨rfl, hp11⟩
    have HP11 := hide hp11
    have hg := hp11.gots
    rw [HG0.out, HG1.out] at hg
    obtain ⟨g6, g7⟩ := hg
    have hcx : ∀ k, (convert 33 9 (.slice A m c)).run Try.prog (w11.drewN k) = .ok (.string (str x)) (w11.drewN k) := fun k => conv_str' (P := Try.prog) (w := w11.drewN k) Try.underlying33 Try.underlying5 Try.underlying9 ((hp11.ext.reads HRM.out (Nat.le_refl _)).drewN k) c
    have hcy : ∀ k, (convert 33 9 (.slice A' m' c')).run Try.prog (w11.drewN k) = .ok (.string (str y)) (w11.drewN k) := fun k => conv_str' (P := Try.prog) (w := w11.drewN k) Try.underlying33 Try.underlying5 Try.underlying9 ((hp11.ext.reads HRM'.out (Nat.le_refl _)).drewN k) c'
    generalize str x = T at g7 hcx
    generalize str y = U at g6 hcy
    clear hp11 HP10 q0 q1
    go_upto_region 11 with fail
    go_quiet (fail)
    go_wp2_with fail
    go_ret
    exact ⟨rfl, HP11.out.ext.drewN _⟩
end Go.Proofs.Ytkfpmljlgpobjaa
