/- The walk of TraceRight. -/
import Derived.Test.YtcgcimnmngpoeaaTraceWrong
import Derived.Test.YtcgcimnmngpoeaaTraceRecs
namespace Go.Proofs.Ytcgcimnmngpoeaa
open Go.RowKit
set_option linter.unusedVariables false

theorem ownF_far (l : List RecD) (h : ∀ r ∈ l, r.Ok ∧ r.o ≤ 5) : ownF l 60 = 0 := by
  have key : ∀ (l : List RecD) (f : Int → Int), (∀ r ∈ l, r.Ok ∧ r.o ≤ 5) → f 60 = 0 → (l.foldl stepF f) 60 = 0 := by
    intro l
    induction l with
    | nil => intro f _ hf; exact hf
    | cons r l ih =>
      intro f hl hf
      rw [List.foldl_cons]
      refine ih _ (fun q hq => hl q (List.mem_cons_of_mem _ hq)) ?_
      have := (hl r (by simp)).2
      have h60 : (60 : Int) ≠ r.o := by omega
      unfold stepF updF
      split
      · simp [h60, hf]
      · split
        · simp [h60, hf]
        · exact hf
  exact key l _ h rfl
theorem normT_at (l : List RecD) (r : RecD) (h : r ∈ normT l) : r.Ok ∧ r.o ≤ 5 := by
  obtain ⟨x, _, rfl⟩ := List.mem_map.1 h
  refine ⟨normR_ok x, ?_⟩
  have := restZ_hi x.o 6 (by omega)
  show restZ x.o 6 ≤ 5
  omega
theorem own_keptB {w w' : World} {base size n : Nat} {e : TypeId} {v : Value} {xs : List Value} {row : Option Nat} (h : w.ownsRow base e size v n xs) (hg : w.grownBy w' row) (hne : ∀ j, v.ownBlock = some j → row ≠ some j) : w'.ownsRow base e size v n xs :=
  h.kept hg (by
    cases hv : v.ownBlock with
    | none => simp
    | some j => exact .inr (fun e => hne j hv e.symm))
def RightRel (w w1 : World) (X : List RecD) (A0 : Option Addr) (c0 N : Nat) (out i : Value) (wr : World) : Prop :=
  ∃ (k : Nat) (ys : List RecD) (m : Nat) (A : Option Addr) (c : Nat), k ≤ N ∧ i = .int .i64 k ∧ out = .slice A m c ∧ ys.length = m ∧ m ≤ k ∧ wr.ownsRow w1.heap.size 34 4 (.slice A m c) m (recsV ys) ∧ MapF wr w.heap.size k (ownF ys) ∧ Clean ys ys.length ∧ (∀ r ∈ ys, r.Ok ∧ r.o ≤ 5) ∧ Ext w wr ∧
    wr.ownsRow (w.heap.size + 1) 34 4 (.slice A0 N c0) N (recsV X) ∧ w1.heap.size ≤ wr.heap.size

theorem rclone_any (A : Option Addr) (n c B : Nat) (xs : List Value) (w : World) (hr : Reads w B 4 A n xs) (h1 : ∀ u ∈ xs, u.oneCell' = true) (hB : B ≤ w.heap.size) (hn : n ≤ 1000000) (hA : A = none → n = 0) :
    Calls Try.prog 13 #[.slice A n c] w fun e w' => ∃ A' c', e = .returned (.slice A' n c') ∧ w'.ownsRow w.heap.size 34 4 (.slice A' n c') n xs ∧ Ext w w' := by
  obtain ⟨i0, hi0, hz0, hz1, hz2⟩ := info_parts rec_info
  have q : ∀ (w : World) (a : Option Addr) (n c n' c' : Nat), (binOp .eql 23 (.slice a n c) (.slice none n' c')).run Try.prog w = .ok (.bool a.isNone) w := fun w a n c n' c' => Lib.run_eql_slice_nil w _ _ a n c n' c' Try.underlying23
  rcases A with _ | ad
  · obtain rfl := hA rfl
    have hx : xs = [] := List.eq_nil_of_length_eq_zero (by simpa using hr.1)
    subst hx
    go_enter Try.func13, Try.ntmps13
    go_wp2
    go_ret
    exact ⟨_, _, rfl, World.ownsRow_nil _ _ _ _, Ext.refl _⟩
  · have hr' := hr.alloc hB (.cells #[] 34)
    have HR := hide hr'
    clear hr hr' hA
    go_enter Try.func13, Try.ntmps13
    go_wp2_with (at_builtin; refine wpList_append_any _ rfl (.tmp 5) (.tmp 6) _ rfl w.heap.size 34 i0 _ 4 32 Try.underlying23 hi0 hz0 hz1 hz2 rfl (by omega) _ 0 [] rfl (World.ownsRow_made w #[] 0 (Nat.le_refl _) (Nat.zero_le _) rfl) B (some ad) n c xs rfl HR.out h1 (by simp only [maxLen]; omega) (by omega) (by simp) ?_; intro A1 c1 w1 hown1 hg1 hat1)
    go_ret
    refine ⟨A1, c1, by simp, by simpa using hown1, ?_⟩
    exact ((Ext.refl w).alloc _).grown hg1 (fun k hk => by injection hk with hk; subst hk; exact Nat.le_refl _)

set_option maxHeartbeats 8000000 in
set_option maxRecDepth 100000 in
theorem right_walk (l : List RecD) (fits : ∀ r ∈ l, r.Fits) (A : Option Addr) (n c : Nat) (w : World) (hr : Reads w w.heap.size 4 A n (recsV l)) (hn : l.length = n) (hnc : n ≤ c) (hc : c ≤ maxLen) :
    Calls Try.prog 5 #[.slice A n c] w fun e w' => e = .returned (.bool true) ∧ Ext w w' := by
  obtain ⟨i0, hi0, hz0, hz1, hz2⟩ := info_parts rec_info
  have hmm := @run_makeMap Try.prog
  have HREC := hide (fun (w' : World) (hx : Ext w w') => records_any l fits A n c w.heap.size w' (hx.reads hr (Nat.le_refl _)) hx.size hn hnc hc)
  clear hr fits hn
  go_enter Try.func5, Try.ntmps5
  go_wp2_with fail
  refine (HREC.out _ (by ((repeat (first | with_reducible exact Ext.refl _ | with_reducible assumption | with_reducible refine Ext.alloc ?_ _ | with_reducible refine Ext.drew ?_ | with_reducible refine Ext.drewN ?_ _ | with_reducible refine Ext.setCell ?_ (by first | exact Nat.le_refl _ | assumption | (simp; done) | omega) _ | with_reducible refine Ext.trans ?_ (by with_reducible assumption))); done))).mono ?_
  rintro e w1 ⟨N, A0, c0, hN, rfl, ho1, hx1⟩
  have hN60 : N ≤ 60 := by omega
  have HM1 := hide ((MapF.made w).ext hx1)
  have HO1 := hide (show w1.ownsRow (w.heap.size + 1) 34 4 (.slice A0 N c0) N (recsV (normT l)) from own_mono ho1 (by simp))
  have HX1 := hide (((Ext.refl w).alloc (.map #[] 0)).trans hx1)
  have HIN := hide (normT_at l)
  have HLN := hide (show (normT l).length = N by have := ho1.1; rw [recsV_length] at this; omega)
  clear ho1 hx1 hN hmm HREC
  generalize normT l = X at *
  go_wp2_with fail
  go_loopw [3, 15] (RightRel w w1 X A0 c0 N) (fun _ i _ => N - (intOf i).toNat)
  case atStart => exact ⟨0, [], 0, none, 0, Nat.zero_le _, rfl, rfl, rfl, Nat.le_refl _, World.ownsRow_nil _ _ _ _, HM1.out, fun i h => absurd h (by simp), by simp, HX1.out, HO1.out, Nat.le_refl _⟩
  case round =>
    obtain ⟨k, ys, m, A1, c1, hk, rfl, rfl, hlen, hmk, ho, hmf, hcl, hys, hx, hox, hsz⟩ := hrel
    have HLEN := hide hlen
    have HO := hide ho
    have HMF := hide hmf
    have HCL := hide hcl
    have HYS := hide hys
    have HX := hide hx
    have HXX := hide hox
    clear hlen ho hmf hcl hys hx hox
    by_cases hlt : k < N
    · obtain ⟨b, off, rfl, hb⟩ := reads4_addr (Reads.of_own HXX.out) (by omega)
      have hkl : k < X.length := by rw [HLN.out]; exact hlt
      obtain ⟨q0, q1, q2, q3⟩ := rec_cells (Reads.of_own HXX.out) k hlt hkl
      obtain ⟨hrok, ro5⟩ := HIN.out X[k] (List.getElem_mem hkl)
      have HRO := hide hrok
      obtain ⟨o1, o2, o3, o4, o5, o6, o7, o8⟩ := hrok
      have HXB := hide (show ∀ j, Value.ownBlock (.slice (some ⟨b, off, none⟩) N c0) = some j → j < w1.heap.size from fun j hj => (HO1.out.lt j hj).2)
      generalize X[k] = r at *
      obtain ⟨rk, rc, rt, ro⟩ := r
      dsimp only at o1 o2 o3 o4 o5 o6 o7 o8 q0 q1 q2 q3 ro5
      go_upto_region 6 with fail
      have hbx : Blk (wr.alloc (recBox rk rc rt ro)) wr.heap.size 34 #[.int .i64 rk, .int .i64 rc, .int .i64 rt, .int .i64 ro] := Blk.new _ _ _
      have HO2 := hide (HO.out.alloc (recBox rk rc rt ro))
      have HM2 := hide (HMF.out.alloc (recBox rk rc rt ro))
      have HX2 := hide (HX.out.alloc (recBox rk rc rt ro))
      have HXX2 := hide (HXX.out.alloc (recBox rk rc rt ro))
      have hs2 : w1.heap.size ≤ (wr.alloc (recBox rk rc rt ro)).heap.size := by simp; omega
      generalize wr.alloc (recBox rk rc rt ro) = W2 at hbx HO2 HM2 HX2 HXX2 hs2 ⊢
      generalize hgx : wr.heap.size = gx at *
      have p0 : W2.cell? ⟨gx, 0, none⟩ = some (.int .i64 rk) := hbx.cell 0
      have p2 : W2.cell? ⟨gx, 2, none⟩ = some (.int .i64 rt) := hbx.cell 2
      have p3 : W2.cell? ⟨gx, 3, none⟩ = some (.int .i64 ro) := hbx.cell 3
      have HGX := hide hgx
      clear q0 q1 q2 q3 hgx
      have hlk := HM2.out.look ro (by omega) (by omega)
      have hgw : w.heap.size < gx := by rw [← HGX.out]; exact HMF.out.lt
      have hcase : rk = 1 ∨ rk = 2 ∨ 2 < rk := by omega
      rcases hcase with rfl | rfl | h3
      · by_cases hf : ownF ys ro = 0
        · have t1 : (ownF ys ro == 0) = true := by simpa using hf
          have HOKR := hide (show okR (ownF ys) ⟨1, rc, rt, ro⟩ = true by simp [okR, hf])
          clear hf
          obtain ⟨W3, hrun, hm3, hg3⟩ := HM2.out.store (by simp only [maxLen]; omega) ro rt (by omega) (by omega) (by omega) (by omega)
          have HM3 := hide hm3
          have hb3 := hbx.grown hg3 (fun e => by injection e with e; have := HMF.out.lt; omega)
          have HO3 := hide (HO2.out.kept hg3 (.inr (fun e => by have := (HO2.out.lt _ e).1; have := HM1.out.lt; omega)))
          have HXX3 := hide (own_keptB HXX2.out hg3 (fun j hv e => by injection e with e; have := (HXX2.out.lt j hv).1; omega))
          have hs3 : w1.heap.size ≤ W3.heap.size := by have := hg3.size; omega
          have HX3 := hide (HX2.out.grown hg3 (fun j hj => by injection hj with hj; omega))
          have HST := hide (show stepF (ownF ys) ⟨1, rc, rt, ro⟩ = updF (ownF ys) ro rt from rfl)
          clear hm3 hg3 hbx
          go_upto_region 11 with fail
          clear hrun hlk p0 p2 p3
          have HPOS := hide (show Clean (ys ++ [(⟨1, rc, rt, ro⟩ : RecD)]) (ys ++ [(⟨1, rc, rt, ro⟩ : RecD)]).length from HCL.out.snoc (by rw [HOKR.out]))
          have x0 : W3.cell? ⟨gx, 0, none⟩ = some (.int .i64 1) := hb3.cell 0
          have x1 : W3.cell? ⟨gx, 1, none⟩ = some (.int .i64 rc) := hb3.cell 1
          have x2 : W3.cell? ⟨gx, 2, none⟩ = some (.int .i64 rt) := hb3.cell 2
          have x3 : W3.cell? ⟨gx, 3, none⟩ = some (.int .i64 ro) := hb3.cell 3
          have HB4 := hide (Blk.new W3 34 #[.int .i64 1, .int .i64 rc, .int .i64 rt, .int .i64 ro])
          have HALL := hide (show ∀ r ∈ ys ++ [(⟨1, rc, rt, ro⟩ : RecD)], r.Ok ∧ r.o ≤ 5 from fun r hr => by
            rcases List.mem_append.1 hr with hr | hr
            · exact HYS.out r hr
            · rw [List.mem_singleton.1 hr]; exact ⟨HRO.out, ro5⟩)
          go_wp2_with (at_builtin; refine wpList_append_any _ rfl (.tmp 55) (.tmp 57) 23 rfl w1.heap.size 34 i0 _ 4 32 Try.underlying23 hi0 hz0 hz1 hz2 rfl (by omega) _ m (recsV ys) rfl (HO3.out.alloc _) _ _ 1 1 [.int .i64 1, .int .i64 rc, .int .i64 rt, .int .i64 ro] rfl HB4.out.reads4 (by simp [Value.oneCell']) (by simp only [maxLen]; omega) (by omega) (by have := hs3; simp; omega) ?_; intro A4 c4 w4 ho4 hg4 ha4)
          have HO4 := hide (show w4.ownsRow w1.heap.size 34 4 (.slice A4 (m + 1) c4) (m + 1) (recsV (ys ++ [(⟨1, rc, rt, ro⟩ : RecD)])) by rw [recsV_append]; exact ho4)
          have HM4 := hide ((HM3.out.alloc (recBox 1 rc rt ro)).kept hg4 (fun e => by have := (HO3.out.lt _ e.symm).1; have := HM1.out.lt; omega))
          have HX4 := hide (((HX3.out.alloc (recBox 1 rc rt ro)).grown hg4 (fun j hj => by have := (HO3.out.lt j hj).1; have := HX1.out.size; omega)))
          have HXX4 := hide (own_keptB (HXX3.out.alloc (recBox 1 rc rt ro)) hg4 (fun j hv e => by have := (HO3.out.lt j e).1; have := HXB.out j hv; omega))
          have hs4 : w1.heap.size ≤ w4.heap.size := by have := hg4.size; simp at this; omega
          clear ho4 hg4 ha4 x0 x1 x2 x3
          go_roundw
          case rel => exact ⟨k + 1, _, m + 1, A4, c4, by omega, by go_num, rfl, by simp [HLEN.out], by omega, HO4.out, by rw [ownF_snoc, HST.out]; exact HM4.out, HPOS.out, HALL.out, HX4.out, HXX4.out, hs4⟩
          case measure => simp [intOf]; omega
        · have t1 : (ownF ys ro == 0) = false := by simpa using hf
          clear hf
          go_wp2_with fail
          go_roundw
          case rel => exact ⟨k + 1, ys, m, A1, c1, by omega, by go_num, rfl, HLEN.out, by omega, HO2.out, HM2.out.mono (by omega), HCL.out, HYS.out, HX2.out, HXX2.out, hs2⟩
          case measure => simp [intOf]; omega
      · by_cases hf : ownF ys ro = rt
        · have t1 : (ownF ys ro == rt) = true := by simpa using hf
          have HOKR := hide (show okR (ownF ys) ⟨2, rc, rt, ro⟩ = true by simp [okR, hf])
          clear hf
          obtain ⟨W3, hrun, hm3, hg3⟩ := HM2.out.store (by simp only [maxLen]; omega) ro 0 (by omega) (by omega) (by omega) (by omega)
          have HM3 := hide hm3
          have hb3 := hbx.grown hg3 (fun e => by injection e with e; have := HMF.out.lt; omega)
          have HO3 := hide (HO2.out.kept hg3 (.inr (fun e => by have := (HO2.out.lt _ e).1; have := HM1.out.lt; omega)))
          have HXX3 := hide (own_keptB HXX2.out hg3 (fun j hv e => by injection e with e; have := (HXX2.out.lt j hv).1; omega))
          have hs3 : w1.heap.size ≤ W3.heap.size := by have := hg3.size; omega
          have HX3 := hide (HX2.out.grown hg3 (fun j hj => by injection hj with hj; omega))
          have HST := hide (show stepF (ownF ys) ⟨2, rc, rt, ro⟩ = updF (ownF ys) ro 0 from rfl)
          clear hm3 hg3 hbx
          go_upto_region 11 with fail
          clear hrun hlk p0 p2 p3
          have HPOS := hide (show Clean (ys ++ [(⟨2, rc, rt, ro⟩ : RecD)]) (ys ++ [(⟨2, rc, rt, ro⟩ : RecD)]).length from HCL.out.snoc (by rw [HOKR.out]))
          have x0 : W3.cell? ⟨gx, 0, none⟩ = some (.int .i64 2) := hb3.cell 0
          have x1 : W3.cell? ⟨gx, 1, none⟩ = some (.int .i64 rc) := hb3.cell 1
          have x2 : W3.cell? ⟨gx, 2, none⟩ = some (.int .i64 rt) := hb3.cell 2
          have x3 : W3.cell? ⟨gx, 3, none⟩ = some (.int .i64 ro) := hb3.cell 3
          have HB4 := hide (Blk.new W3 34 #[.int .i64 2, .int .i64 rc, .int .i64 rt, .int .i64 ro])
          have HALL := hide (show ∀ r ∈ ys ++ [(⟨2, rc, rt, ro⟩ : RecD)], r.Ok ∧ r.o ≤ 5 from fun r hr => by
            rcases List.mem_append.1 hr with hr | hr
            · exact HYS.out r hr
            · rw [List.mem_singleton.1 hr]; exact ⟨HRO.out, ro5⟩)
          go_wp2_with (at_builtin; refine wpList_append_any _ rfl (.tmp 55) (.tmp 57) 23 rfl w1.heap.size 34 i0 _ 4 32 Try.underlying23 hi0 hz0 hz1 hz2 rfl (by omega) _ m (recsV ys) rfl (HO3.out.alloc _) _ _ 1 1 [.int .i64 2, .int .i64 rc, .int .i64 rt, .int .i64 ro] rfl HB4.out.reads4 (by simp [Value.oneCell']) (by simp only [maxLen]; omega) (by omega) (by have := hs3; simp; omega) ?_; intro A4 c4 w4 ho4 hg4 ha4)
          have HO4 := hide (show w4.ownsRow w1.heap.size 34 4 (.slice A4 (m + 1) c4) (m + 1) (recsV (ys ++ [(⟨2, rc, rt, ro⟩ : RecD)])) by rw [recsV_append]; exact ho4)
          have HM4 := hide ((HM3.out.alloc (recBox 2 rc rt ro)).kept hg4 (fun e => by have := (HO3.out.lt _ e.symm).1; have := HM1.out.lt; omega))
          have HX4 := hide (((HX3.out.alloc (recBox 2 rc rt ro)).grown hg4 (fun j hj => by have := (HO3.out.lt j hj).1; have := HX1.out.size; omega)))
          have HXX4 := hide (own_keptB (HXX3.out.alloc (recBox 2 rc rt ro)) hg4 (fun j hv e => by have := (HO3.out.lt j e).1; have := HXB.out j hv; omega))
          have hs4 : w1.heap.size ≤ w4.heap.size := by have := hg4.size; simp at this; omega
          clear ho4 hg4 ha4 x0 x1 x2 x3
          go_roundw
          case rel => exact ⟨k + 1, _, m + 1, A4, c4, by omega, by go_num, rfl, by simp [HLEN.out], by omega, HO4.out, by rw [ownF_snoc, HST.out]; exact HM4.out, HPOS.out, HALL.out, HX4.out, HXX4.out, hs4⟩
          case measure => simp [intOf]; omega
        · have t1 : (ownF ys ro == rt) = false := by simpa using hf
          clear hf
          go_wp2_with fail
          go_roundw
          case rel => exact ⟨k + 1, ys, m, A1, c1, by omega, by go_num, rfl, HLEN.out, by omega, HO2.out, HM2.out.mono (by omega), HCL.out, HYS.out, HX2.out, HXX2.out, hs2⟩
          case measure => simp [intOf]; omega
      · have t1 : (rk == 1) = false := by rw [beq_eq_false_iff_ne]; omega
        have t2 : (rk == 2) = false := by rw [beq_eq_false_iff_ne]; omega
        have n1 : rk ≠ 1 := by omega
        have n2 : rk ≠ 2 := by omega
        have HOKR := hide (show okR (ownF ys) ⟨rk, rc, rt, ro⟩ = true by simp [okR, n1, n2])
        have HST := hide (show stepF (ownF ys) ⟨rk, rc, rt, ro⟩ = ownF ys by simp [stepF, n1, n2])
        clear n1 n2
        go_upto_region 11 with fail
        clear hlk p0 p2 p3
        have hb3 := hbx
        have HM3 := hide (HM2.out.mono (show k ≤ k + 1 by omega))
        have HO3 := HO2
        have HX3 := HX2
        have HXX3 := HXX2
        have hs3 := hs2
        clear hbx HM2 HO2 HX2 HXX2 hs2
        generalize W2 = W3 at *
        have HPOS := hide (show Clean (ys ++ [(⟨rk, rc, rt, ro⟩ : RecD)]) (ys ++ [(⟨rk, rc, rt, ro⟩ : RecD)]).length from HCL.out.snoc (by rw [HOKR.out]))
        have x0 : W3.cell? ⟨gx, 0, none⟩ = some (.int .i64 rk) := hb3.cell 0
        have x1 : W3.cell? ⟨gx, 1, none⟩ = some (.int .i64 rc) := hb3.cell 1
        have x2 : W3.cell? ⟨gx, 2, none⟩ = some (.int .i64 rt) := hb3.cell 2
        have x3 : W3.cell? ⟨gx, 3, none⟩ = some (.int .i64 ro) := hb3.cell 3
        have HB4 := hide (Blk.new W3 34 #[.int .i64 rk, .int .i64 rc, .int .i64 rt, .int .i64 ro])
        have HALL := hide (show ∀ r ∈ ys ++ [(⟨rk, rc, rt, ro⟩ : RecD)], r.Ok ∧ r.o ≤ 5 from fun r hr => by
          rcases List.mem_append.1 hr with hr | hr
          · exact HYS.out r hr
          · rw [List.mem_singleton.1 hr]; exact ⟨HRO.out, ro5⟩)
        go_wp2_with (at_builtin; refine wpList_append_any _ rfl (.tmp 55) (.tmp 57) 23 rfl w1.heap.size 34 i0 _ 4 32 Try.underlying23 hi0 hz0 hz1 hz2 rfl (by omega) _ m (recsV ys) rfl (HO3.out.alloc _) _ _ 1 1 [.int .i64 rk, .int .i64 rc, .int .i64 rt, .int .i64 ro] rfl HB4.out.reads4 (by simp [Value.oneCell']) (by simp only [maxLen]; omega) (by omega) (by have := hs3; simp; omega) ?_; intro A4 c4 w4 ho4 hg4 ha4)
        have HO4 := hide (show w4.ownsRow w1.heap.size 34 4 (.slice A4 (m + 1) c4) (m + 1) (recsV (ys ++ [(⟨rk, rc, rt, ro⟩ : RecD)])) by rw [recsV_append]; exact ho4)
        have HM4 := hide ((HM3.out.alloc (recBox rk rc rt ro)).kept hg4 (fun e => by have := (HO3.out.lt _ e.symm).1; have := HM1.out.lt; omega))
        have HX4 := hide (((HX3.out.alloc (recBox rk rc rt ro)).grown hg4 (fun j hj => by have := (HO3.out.lt j hj).1; have := HX1.out.size; omega)))
        have HXX4 := hide (own_keptB (HXX3.out.alloc (recBox rk rc rt ro)) hg4 (fun j hv e => by have := (HO3.out.lt j e).1; have := HXB.out j hv; omega))
        have hs4 : w1.heap.size ≤ w4.heap.size := by have := hg4.size; simp at this; omega
        clear ho4 hg4 ha4 x0 x1 x2 x3
        go_roundw
        case rel => exact ⟨k + 1, _, m + 1, A4, c4, by omega, by go_num, rfl, by simp [HLEN.out], by omega, HO4.out, by rw [ownF_snoc, HST.out]; exact HM4.out, HPOS.out, HALL.out, HX4.out, HXX4.out, hs4⟩
        case measure => simp [intOf]; omega
    · obtain rfl : k = N := by omega
      have HRY := hide (Reads.of_own HO.out)
      have hm60 : m ≤ 60 := by omega
      have hmc : m ≤ c1 := (own_le HO.out).1
      have HNIL := hide (show A1 = none → m = 0 by
        intro h
        obtain ⟨A', c', hv, _, _, h3⟩ := own_form HO.out
        injection hv with e1 e2 e3
        exact (h3 (e1.symm.trans h)).1)
      go_wp2_with fail
      refine (wrong_any ys (fun r hr => (HYS.out r hr).1) A1 m c1 wr.heap.size wr HRY.out (Nat.le_refl _) HLEN.out (by omega) hmc).mono ?_
      rintro e w5 ⟨hres, hx5⟩
      have he : e = .returned (.tuple #[.int .i64 0, .int .i64 4]) := by
        rcases hres with ⟨he, _⟩ | ⟨i, hi, _, _, hbad⟩
        · exact he
        · rw [HCL.out i hi hi] at hbad; cases hbad
      subst he
      have HX5 := hide hx5
      clear hres hx5
      go_wp2_with fail
      refine (rclone_any A1 m c1 wr.heap.size (recsV ys) w5 (HX5.out.reads HRY.out (Nat.le_refl _)) (recsV_one _) HX5.out.size (by omega) HNIL.out).mono ?_
      rintro e w6 ⟨A6, c6, rfl, ho6, hx6⟩
      have HO6 := hide ho6
      have HX6 := hide (HX5.out.trans hx6)
      have hs6 : w5.heap.size ≤ w6.heap.size := hx6.size
      clear ho6 hx6
      have HB7 := hide (Blk.new w6 34 #[.int .i64 2, .int .i64 0, .int .i64 16, .int .i64 60])
      go_wp2_with (at_builtin; refine wpList_append_any _ rfl (.tmp 67) (.tmp 69) 23 rfl w5.heap.size 34 i0 _ 4 32 Try.underlying23 hi0 hz0 hz1 hz2 rfl (by omega) _ m (recsV ys) rfl (HO6.out.alloc _) _ _ 1 1 [.int .i64 2, .int .i64 0, .int .i64 16, .int .i64 60] rfl HB7.out.reads4 (by simp [Value.oneCell']) (by simp only [maxLen]; omega) (by omega) (by simp; omega) ?_; intro A7 c7 w7 ho7 hg7 ha7)
      have HX7 := hide (show Ext w w7 from ((HX.out.trans HX6.out).alloc (recBox 2 0 16 60)).grown hg7 (fun j hj => by have := (HO6.out.lt j hj).1; have := HX5.out.size; have := HX.out.size; omega))
      have HY7 := hide (show Reads w7 w7.heap.size 4 A7 (m + 1) (recsV (ys ++ [(⟨2, 0, 16, 60⟩ : RecD)])) by rw [recsV_append]; exact Reads.of_own ho7)
      have hc7 : m + 1 ≤ c7 := (own_le ho7).1
      have HL7 := hide (show (ys ++ [(⟨2, 0, 16, 60⟩ : RecD)]).length = m + 1 by simp [HLEN.out])
      have HFAR := hide (ownF_far ys HYS.out)
      clear ho7 hg7 ha7 HB7
      refine (wrong_any (ys ++ [(⟨2, 0, 16, 60⟩ : RecD)]) (fun r hr => by
        rcases List.mem_append.1 hr with hr | hr
        · exact (HYS.out r hr).1
        · rw [List.mem_singleton.1 hr]; constructor <;> simp) A7 (m + 1) c7 w7.heap.size w7 HY7.out (Nat.le_refl _) HL7.out (by omega) hc7).mono ?_
      rintro e w8 ⟨hres, hx8⟩
      have he : e = .returned (.tuple #[.int .i64 m, .int .i64 0]) := by
        have hlast : okR (ownF ys) ⟨2, 0, 16, 60⟩ = false := by simp [okR, HFAR.out]
        rcases hres with ⟨_, hcl⟩ | ⟨i, hi, he, _, hbad⟩
        · have h1 := hcl ys.length (by simp) (by simp)
          simp [hlast] at h1
        · by_cases hiy : i < ys.length
          · rw [List.getElem_append_left hiy, List.take_append_of_le_length (by omega), HCL.out i hiy hiy] at hbad
            cases hbad
          · have : i = m := by have := HLEN.out; have := HL7.out; omega
            subst this
            exact he
      subst he
      clear hres
      have t : ((m : Int) == (m : Int)) = true := by simp
      go_wp2_with fail
      go_ret
      exact ⟨rfl, HX7.out.trans hx8⟩
end Go.Proofs.Ytcgcimnmngpoeaa
