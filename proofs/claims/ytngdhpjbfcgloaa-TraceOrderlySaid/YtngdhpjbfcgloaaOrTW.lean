/- The walk of TraceOrderly. -/
import Derived.Test.YtngdhpjbfcgloaaOrW
import Derived.Test.YtngdhpjbfcgloaaRing
import Derived.Test.YtngdhpjbfcgloaaMapF
namespace Go.Proofs.Ytngdhpjbfcgloaa
open Go.RowKit
set_option linter.unusedVariables false

def natE (e : EdI) : EdgeD := (e.1.toNat, e.2.toNat)
theorem edV_nat (E : List EdI) (h : ∀ e ∈ E, 0 ≤ e.1 ∧ 0 ≤ e.2) : edV E = edgesV (E.map natE) := by
  induction E with
  | nil => rfl
  | cons a r ih =>
    obtain ⟨h1, h2⟩ := h a (by simp)
    have i1 := ih (fun e he => h e (by simp [he]))
    unfold edV edgesV at *
    rw [List.map_cons, List.flatMap_cons, List.flatMap_cons, i1]
    congr 1
    simp [encE, edgeC, natE, Int.toNat_of_nonneg h1, Int.toNat_of_nonneg h2]
theorem ring_empty (l : List RecD) (ok : ∀ r ∈ l, r.Ok) (E : List EdI) (hE : ∀ x ∈ E, x ∈ outL (risF l).2) (R : List Nat) (hR : RingOk (nextL (E.map natE)) R) : R = [] := by
  refine ring_none _ R hR (fun a b hb => ?_)
  obtain ⟨e, he, h1⟩ := List.mem_map.1 (nextL_mem _ a b hb)
  have hx := hE e he
  have hlt := (ris_inv l).2 e hx
  obtain ⟨⟨r, hr, hro⟩, q, hq, hqo⟩ := outL_mem _ e hx
  obtain ⟨_, _, _, _, _, _, a7, a8⟩ := ok r (ris_mem l r hr)
  obtain ⟨_, _, _, _, _, _, b7, b8⟩ := ok q (ris_mem l q hq)
  injection h1 with h1 h2
  omega
theorem edges_small (l : List RecD) (ok : ∀ r ∈ l, r.Ok) (E : List EdI) (hE : ∀ x ∈ E, x ∈ outL l) : ∀ e ∈ E, (0 ≤ e.1 ∧ e.1 ≤ 63) ∧ (0 ≤ e.2 ∧ e.2 ≤ 63) := by
  intro e he
  obtain ⟨⟨r, hr, hro⟩, q, hq, hqo⟩ := outL_mem _ e (hE e he)
  obtain ⟨_, _, _, _, _, _, a7, a8⟩ := ok r hr
  obtain ⟨_, _, _, _, _, _, b7, b8⟩ := ok q hq
  omega
def TwoR : List RecD := [⟨1, 0, 1, 1⟩, ⟨1, 0, 1, 2⟩]
theorem two_out : (outL TwoR).length = 1 := by decide
theorem two_ok : ∀ r ∈ TwoR, r.Ok := by
  intro r hr
  simp [TwoR] at hr
  rcases hr with rfl | rfl <;> constructor <;> decide
theorem ring_orderly (l : List RecD) (ok : ∀ r ∈ l, r.Ok) (h60 : l.length ≤ 60) (E : List EdI) (hE : ∀ x ∈ E, x ∈ outL (risF l).2) (A : Option Addr) (m c B : Nat) (w : World) (ho : w.ownsRow B 24 2 (.slice A m c) m (edV E)) (hm : m ≤ 4000) :
    Calls Try.prog 6 #[.slice A m c] w fun e w' => ∃ A' c', e = .returned (.tuple #[.slice A' 0 c', .int .i64 0]) ∧ Ext w w' := by
  have hs := edges_small (risF l).2 (fun r hr => ok r (ris_mem l r hr)) E hE
  have hr := Reads.of_own ho
  rw [edV_nat E (fun e he => ⟨(hs e he).1.1, (hs e he).2.1⟩)] at hr
  refine (ring_any (E.map natE) (fun e he => by
    obtain ⟨x, hx, rfl⟩ := List.mem_map.1 he
    have := hs x hx
    simp only [natE]
    omega) A m c w.heap.size w hr (Nat.le_refl _) hm).mono ?_
  rintro e w' ⟨A', c', he, -, -, -, hok, hx⟩
  have hR := ring_empty l ok E hE _ hok
  rw [hR] at he
  exact ⟨A', c', he, hx⟩
theorem two_recs (w : World) : Reads (w.alloc (.cells #[.int .i64 1, .int .i64 0, .int .i64 1, .int .i64 1, .int .i64 1, .int .i64 0, .int .i64 1, .int .i64 2] 37)) (w.alloc (.cells #[.int .i64 1, .int .i64 0, .int .i64 1, .int .i64 1, .int .i64 1, .int .i64 0, .int .i64 1, .int .i64 2] 37)).heap.size 4 (some ⟨w.heap.size, 0, none⟩) 2 (recsV TwoR) := by
  refine ⟨rfl, fun _ => ⟨_, rfl, (Blk.new w 37 _).lt, fun j u hu => ?_⟩⟩
  rw [add_lit, Nat.zero_add, (Blk.new w 37 _).cell]
  simpa [recsV, TwoR, recC] using hu
/-- The loop: what the harness lets through. -/
def TRel (w : World) (X : List RecD) (A0 : Option Addr) (c0 N gm B1 : Nat) (out i : Value) (wr : World) : Prop :=
  ∃ (k p q : Nat) (A : Option Addr) (c : Nat), k ≤ N ∧ i = .int .i64 k ∧ out = .slice A p c ∧ q ≤ k ∧ p ≤ k ∧ (risF (X.take k)).2.length = p ∧ MapF wr gm q (risF (X.take k)).1 ∧ wr.ownsRow (gm + 1) 37 4 (.slice A0 N c0) N (recsV X) ∧ wr.ownsRow B1 37 4 (.slice A p c) p (recsV (risF (X.take k)).2) ∧ Ext w wr ∧ B1 ≤ wr.heap.size
set_option maxHeartbeats 8000000 in
set_option maxRecDepth 100000 in
theorem orderly_walk (l : List RecD) (fits : ∀ r ∈ l, r.Fits) (A : Option Addr) (n c : Nat) (w : World) (hr : Reads w w.heap.size 4 A n (recsV l)) (hn : l.length = n) (hnc : n ≤ c) (hc : c ≤ maxLen) :
    Calls Try.prog 4 #[.slice A n c] w fun e w' => e = .returned (.bool true) ∧ Ext w w' := by
  obtain ⟨i0, hi0, hz0, hz1, hz2⟩ := info_parts rec_info
  have hmm := @run_makeMap Try.prog
  have HREC := hide (fun (w' : World) (hx : Ext w w') => records_any l fits A n c w.heap.size w' (hx.reads hr (Nat.le_refl _)) hx.size hn hnc hc)
  clear hr fits hn
  go_enter Try.func4, Try.ntmps4
  go_wp2_with fail
  refine (HREC.out _ (by ((repeat (first | with_reducible exact Ext.refl _ | with_reducible assumption | with_reducible refine Ext.alloc ?_ _ | with_reducible refine Ext.drew ?_ | with_reducible refine Ext.drewN ?_ _ | with_reducible refine Ext.setCell ?_ (by first | exact Nat.le_refl _ | assumption | (simp; done) | omega) _ | with_reducible refine Ext.trans ?_ (by with_reducible assumption))); done))).mono ?_
  rintro e w1 ⟨N, A0, c0, hN, rfl, ho1, hx1⟩
  have hN60 : N ≤ 60 := by omega
  obtain ⟨gm, hgm⟩ : ∃ x, w.heap.size = x := ⟨_, rfl⟩
  have HM1 := hide ((MapF.made w).ext hx1)
  have HO1 := hide (show w1.ownsRow (w.heap.size + 1) 37 4 (.slice A0 N c0) N (recsV (normT l)) from own_mono ho1 (by simp))
  have HX1 := hide (((Ext.refl w).alloc (.map #[] 0)).trans hx1)
  have HOK := hide (normT_ok l)
  have HLN := hide (show (normT l).length = N by have := ho1.1; rw [recsV_length] at this; omega)
  have HGW := hide (show w.heap.size ≤ gm from Nat.le_of_eq hgm)
  clear ho1 hx1 hN hmm HREC
  rw [hgm] at HM1 HO1 ⊢
  clear hgm
  generalize normT l = X at *
  obtain ⟨B1, hB1⟩ : ∃ x, w1.heap.size = x := ⟨_, rfl⟩
  have HB1 := hide hB1
  have hmb : gm < B1 := by rw [← hB1]; exact HM1.out.lt
  clear hB1
  go_wp2_with fail
  go_loopw [3, 17] (TRel w X A0 c0 N gm B1) (fun _ i _ => N - (intOf i).toNat)
  case atStart => exact ⟨0, 0, 0, none, 0, Nat.zero_le _, rfl, rfl, Nat.le_refl _, Nat.le_refl _, rfl, HM1.out, HO1.out, World.ownsRow_nil _ _ _ _, HX1.out, Nat.le_of_eq HB1.out.symm⟩
  case round =>
    obtain ⟨k, p, q, A1, c1, hk, rfl, rfl, hqk, hpk, hlen, hmf, hox, ho, hx, hsz⟩ := hrel
    have HLEN := hide hlen
    have HO := hide ho
    have HMF := hide hmf
    have HX := hide hx
    have HXX := hide hox
    clear hlen ho hmf hx hox
    by_cases hlt : k < N
    · obtain ⟨b, off, rfl, hb⟩ := reads4_addr (Reads.of_own HXX.out) (by omega)
      have hkl : k < X.length := by rw [HLN.out]; exact hlt
      obtain ⟨q0, q1, q2, q3⟩ := rec_cells (Reads.of_own HXX.out) k hlt hkl
      have hrok := HOK.out X[k] (List.getElem_mem hkl)
      obtain ⟨o1, o2, o3, o4, o5, o6, o7, o8⟩ := hrok
      have HXB := hide (show ∀ j, Value.ownBlock (.slice (some ⟨b, off, none⟩) N c0) = some j → j < B1 from fun j hj => by rw [← HB1.out]; exact (HO1.out.lt j hj).2)
      have HTK := hide (List.take_succ_eq_append_getElem hkl)
      generalize X[k] = r at *
      obtain ⟨rk, rc, rt, ro⟩ := r
      dsimp only at o1 o2 o3 o4 o5 o6 o7 o8 q0 q1 q2 q3
      have HRS := hide (show risF (X.take (k + 1)) = risS (risF (X.take k)) ⟨rk, rc, rt, ro⟩ from by rw [HTK.out, risF_snoc])
      generalize risF (X.take k) = st at *
      obtain ⟨f, L⟩ := st
      dsimp only at HLEN HMF HO
      go_upto_region 6 with fail
      have hbx : Blk (wr.alloc (recBox rk rc rt ro)) wr.heap.size 37 #[.int .i64 rk, .int .i64 rc, .int .i64 rt, .int .i64 ro] := Blk.new _ _ _
      have HO2 := hide (HO.out.alloc (recBox rk rc rt ro))
      have HM2 := hide (HMF.out.alloc (recBox rk rc rt ro))
      have HX2 := hide (HX.out.alloc (recBox rk rc rt ro))
      have HXX2 := hide (HXX.out.alloc (recBox rk rc rt ro))
      have hs2 : B1 ≤ (wr.alloc (recBox rk rc rt ro)).heap.size := by simp; omega
      generalize wr.alloc (recBox rk rc rt ro) = W2 at hbx HO2 HM2 HX2 HXX2 hs2 ⊢
      generalize hgx : wr.heap.size = gx at *
      have p0 : W2.cell? ⟨gx, 0, none⟩ = some (.int .i64 rk) := hbx.cell 0
      have p1 : W2.cell? ⟨gx, 1, none⟩ = some (.int .i64 rc) := hbx.cell 1
      have p2 : W2.cell? ⟨gx, 2, none⟩ = some (.int .i64 rt) := hbx.cell 2
      have p3 : W2.cell? ⟨gx, 3, none⟩ = some (.int .i64 ro) := hbx.cell 3
      clear q0 q1 q2 q3 hgx HMF HO HX HXX
      have hgw : gm < gx := by omega
      have hcase : rk = 1 ∨ rk = 2 ∨ 2 < rk := by omega
      rcases hcase with rfl | rfl | h3
      · have hlk := HM2.out.look rt (by omega) (by omega)
        obtain ⟨z, hz⟩ : ∃ z, f rt = z := ⟨_, rfl⟩
        rw [hz] at hlk
        by_cases hf : ro + 1 > z
        · have HRS1 := hide (show risF (X.take (k + 1)) = (updF f rt (ro + 1), L ++ [⟨1, rc, rt, ro⟩]) from by
            rw [HRS.out]
            unfold risS
            rw [if_pos ⟨rfl, by dsimp only; rw [hz]; exact hf⟩]
            rfl)
          have t1 : decide (z < ro + 1) = true := decide_eq_true hf
          clear hf hz
          obtain ⟨W3, hrun, hm3, hg3⟩ := HM2.out.store (by simp only [maxLen]; omega) rt (ro + 1) (by omega) (by omega) (by omega) (by omega)
          have HM3 := hide hm3
          have hb3 := hbx.grown hg3 (fun e => by injection e with e; omega)
          have HO3 := hide (own_keptB HO2.out hg3 (fun j hv e => by injection e with e; have := (HO2.out.lt j hv).1; omega))
          have HXX3 := hide (own_keptB HXX2.out hg3 (fun j hv e => by injection e with e; have := (HXX2.out.lt j hv).1; omega))
          have hs3 : B1 ≤ W3.heap.size := by have := hg3.size; omega
          have HX3 := hide (HX2.out.grown hg3 (fun j hj => by injection hj with hj; have := HGW.out; omega))
          clear hm3 hg3 hbx
          go_upto_region 9 with fail
          clear hrun hlk p0 p1 p2 p3
          have x0 : W3.cell? ⟨gx, 0, none⟩ = some (.int .i64 1) := hb3.cell 0
          have x1 : W3.cell? ⟨gx, 1, none⟩ = some (.int .i64 rc) := hb3.cell 1
          have x2 : W3.cell? ⟨gx, 2, none⟩ = some (.int .i64 rt) := hb3.cell 2
          have x3 : W3.cell? ⟨gx, 3, none⟩ = some (.int .i64 ro) := hb3.cell 3
          have HB4 := hide (Blk.new W3 37 #[.int .i64 1, .int .i64 rc, .int .i64 rt, .int .i64 ro])
          go_wp2_with (at_builtin; refine wpList_append_any _ rfl (.tmp 45) (.tmp 47) 33 rfl B1 37 i0 _ 4 32 Try.underlying33 hi0 hz0 hz1 hz2 rfl (by omega) _ p (recsV L) rfl (HO3.out.alloc _) _ _ 1 1 [.int .i64 1, .int .i64 rc, .int .i64 rt, .int .i64 ro] rfl HB4.out.reads4 (by simp [Value.oneCell']) (by simp only [maxLen]; omega) (by omega) (by have := hs3; simp; omega) ?_; intro A4 c4 w4 ho4 hg4 ha4)
          have HO4 := hide (show w4.ownsRow B1 37 4 (.slice A4 (p + 1) c4) (p + 1) (recsV (L ++ [(⟨1, rc, rt, ro⟩ : RecD)])) by rw [recsV_append]; exact ho4)
          have HM4 := hide ((HM3.out.alloc (recBox 1 rc rt ro)).kept hg4 (fun e => by have := (HO3.out.lt _ e.symm).1; omega))
          have HX4 := hide (((HX3.out.alloc (recBox 1 rc rt ro)).grown hg4 (fun j hj => by have := (HO3.out.lt j hj).1; have := HGW.out; omega)))
          have HXX4 := hide (own_keptB (HXX3.out.alloc (recBox 1 rc rt ro)) hg4 (fun j hv e => by have := (HO3.out.lt j e).1; have := HXB.out j hv; omega))
          have hs4 : B1 ≤ w4.heap.size := by have := hg4.size; simp at this; omega
          clear ho4 hg4 ha4 x0 x1 x2 x3
          go_roundw
          case rel => exact ⟨k + 1, p + 1, q + 1, A4, c4, by omega, by go_num, rfl, by omega, by omega, by rw [HRS1.out]; simp [HLEN.out], by rw [HRS1.out]; exact HM4.out, HXX4.out, by rw [HRS1.out]; exact HO4.out, HX4.out, hs4⟩
          case measure => simp [intOf]; omega
        · have HRS1 := hide (show risF (X.take (k + 1)) = (f, L) from by
            rw [HRS.out]
            unfold risS
            rw [if_neg (fun h => hf (by have := h.2; dsimp only at this; rw [hz] at this; exact this)), if_neg (by simp)])
          have t1 : decide (z < ro + 1) = false := decide_eq_false hf
          clear hf hz
          go_wp2_with fail
          go_roundw
          case rel => exact ⟨k + 1, p, q, A1, c1, by omega, by go_num, rfl, by omega, by omega, by rw [HRS1.out]; exact HLEN.out, by rw [HRS1.out]; exact HM2.out, HXX2.out, by rw [HRS1.out]; exact HO2.out, HX2.out, hs2⟩
          case measure => simp [intOf]; omega
      · have HRS1 := hide (show risF (X.take (k + 1)) = (f, L ++ [⟨2, rc, rt, ro⟩]) from by
          rw [HRS.out]
          unfold risS
          rw [if_neg (fun h => by have := h.1; simp at this), if_pos rfl])
        go_upto_region 9 with fail
        clear p0 p1 p2 p3
        have x0 : W2.cell? ⟨gx, 0, none⟩ = some (.int .i64 2) := hbx.cell 0
        have x1 : W2.cell? ⟨gx, 1, none⟩ = some (.int .i64 rc) := hbx.cell 1
        have x2 : W2.cell? ⟨gx, 2, none⟩ = some (.int .i64 rt) := hbx.cell 2
        have x3 : W2.cell? ⟨gx, 3, none⟩ = some (.int .i64 ro) := hbx.cell 3
        have HB4 := hide (Blk.new W2 37 #[.int .i64 2, .int .i64 rc, .int .i64 rt, .int .i64 ro])
        go_wp2_with (at_builtin; refine wpList_append_any _ rfl (.tmp 45) (.tmp 47) 33 rfl B1 37 i0 _ 4 32 Try.underlying33 hi0 hz0 hz1 hz2 rfl (by omega) _ p (recsV L) rfl (HO2.out.alloc _) _ _ 1 1 [.int .i64 2, .int .i64 rc, .int .i64 rt, .int .i64 ro] rfl HB4.out.reads4 (by simp [Value.oneCell']) (by simp only [maxLen]; omega) (by omega) (by have := hs2; simp; omega) ?_; intro A4 c4 w4 ho4 hg4 ha4)
        have HO4 := hide (show w4.ownsRow B1 37 4 (.slice A4 (p + 1) c4) (p + 1) (recsV (L ++ [(⟨2, rc, rt, ro⟩ : RecD)])) by rw [recsV_append]; exact ho4)
        have HM4 := hide ((HM2.out.alloc (recBox 2 rc rt ro)).kept hg4 (fun e => by have := (HO2.out.lt _ e.symm).1; omega))
        have HX4 := hide (((HX2.out.alloc (recBox 2 rc rt ro)).grown hg4 (fun j hj => by have := (HO2.out.lt j hj).1; have := HGW.out; omega)))
        have HXX4 := hide (own_keptB (HXX2.out.alloc (recBox 2 rc rt ro)) hg4 (fun j hv e => by have := (HO2.out.lt j e).1; have := HXB.out j hv; omega))
        have hs4 : B1 ≤ w4.heap.size := by have := hg4.size; simp at this; omega
        clear ho4 hg4 ha4 x0 x1 x2 x3
        go_roundw
        case rel => exact ⟨k + 1, p + 1, q, A4, c4, by omega, by go_num, rfl, by omega, by omega, by rw [HRS1.out]; simp [HLEN.out], by rw [HRS1.out]; exact HM4.out, HXX4.out, by rw [HRS1.out]; exact HO4.out, HX4.out, hs4⟩
        case measure => simp [intOf]; omega
      · have HRS1 := hide (show risF (X.take (k + 1)) = (f, L) from by
          rw [HRS.out]
          unfold risS
          rw [if_neg (fun h => by have := h.1; dsimp only at this; omega), if_neg (fun h => by dsimp only at h; omega)])
        have t1 : (rk == 1) = false := by rw [beq_eq_false_iff_ne]; omega
        have t2 : (rk == 2) = false := by rw [beq_eq_false_iff_ne]; omega
        go_wp2_with fail
        go_roundw
        case rel => exact ⟨k + 1, p, q, A1, c1, by omega, by go_num, rfl, by omega, by omega, by rw [HRS1.out]; exact HLEN.out, by rw [HRS1.out]; exact HM2.out, HXX2.out, by rw [HRS1.out]; exact HO2.out, HX2.out, hs2⟩
        case measure => simp [intOf]; omega
    · have hkn : k = N := by omega
      subst hkn
      have hxt : X.take k = X := List.take_of_length_le (by rw [HLN.out]; exact Nat.le_refl _)
      rw [hxt] at HLEN HO
      clear hxt HMF HXX HM1 HO1 HX1
      have HOK2 := hide (fun r hr => HOK.out r (ris_mem X r hr))
      have hcl := own_le HO.out
      have HCL := hide hcl.1
      clear hcl
      have HBD := hide (show (outL (risF X).2).length ≤ 3600 from by
        have h1 := outL_len (risF X).2
        have h2 := Nat.mul_le_mul (show (risF X).2.length ≤ 60 by rw [HLEN.out]; omega) (show (risF X).2.length ≤ 60 by rw [HLEN.out]; omega)
        omega)
      go_wp2_with fail
      refine (order_any (risF X).2 HOK2.out A1 p c1 wr.heap.size wr (Reads.of_own HO.out) (Nat.le_refl _) HLEN.out (by omega) HCL.out).mono ?_
      rintro e w2 ⟨m2, A2, c2, E, rfl, hE, -, hm2, ho2, hx2⟩
      have HRING := hide (ring_orderly X HOK.out (by rw [HLN.out]; omega) E hE A2 m2 c2 _ w2 ho2 (by have := HBD.out; omega))
      have HX2 := hide (HX.out.trans hx2)
      clear hE hm2 ho2 hx2
      go_wp2_with fail
      refine HRING.out.mono ?_
      rintro e w3 ⟨A3, c3, rfl, hx3⟩
      have HX3 := hide (HX2.out.trans hx3)
      clear hx3 HRING HX2
      go_wp2_with fail
      refine (order_any TwoR two_ok (some ⟨w3.heap.size, 0, none⟩) 2 2 _ _ (two_recs w3) (Nat.le_refl _) rfl (by omega) (by omega)).mono ?_
      rintro e w4 ⟨m4, A4, c4, E4, rfl, -, hone, -, -, hx4⟩
      obtain rfl := hone two_out
      have HX4 := hide ((HX3.out.alloc _).trans hx4)
      clear hone hx4
      go_wp2_with fail
      go_ret
      exact ⟨rfl, HX4.out⟩
end Go.Proofs.Ytngdhpjbfcgloaa
