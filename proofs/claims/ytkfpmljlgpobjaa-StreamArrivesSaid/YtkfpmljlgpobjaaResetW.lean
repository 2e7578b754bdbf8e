/- The walk of StreamReset. -/
import Derived.Test.YtkfpmljlgpobjaaMeetsW
import Derived.Test.YtkfpmljlgpobjaaCut
namespace Go.Proofs.Ytkfpmljlgpobjaa
open Go.RowKit
set_option linter.unusedVariables false

/-- Bytes that were there ahead of the pair. -/
theorem pair_writeA (w0 : World) (gp : Nat) (b : Nat → Nat) (d : PairD) (w : World) (h : PairAt w0 gp b d w) (hl : (d.p 0).length ≤ 1000000) (D : Option Addr) (n c : Nat) (ds : List UInt8) (hd : Reads w w0.heap.size 1 D n (bytesV ds)) (hnc : n ≤ c) (hn : n ≤ 256) :
    Calls Try.prog 17 #[.pointer (some ⟨gp, 0, none⟩), .int .i64 0, .slice D n c] w fun r w' => r = .returned (.bool true) ∧ PairAt w0 gp b (writeI d 0 ds) w' := by
  obtain ⟨L, h, hb⟩ := h
  exact pair_write0 w0 gp b d L w h hb hl D n c ds w0.heap.size h.ext.size hd hnc hn (fun a _ hlt => ⟨by have := h.lo.1; omega, fun j hj hf => by have := h.lo.2 j hj _ hf; omega⟩)
theorem pair_writeB (w0 : World) (gp : Nat) (b : Nat → Nat) (d : PairD) (w : World) (h : PairAt w0 gp b d w) (hl : (d.p 1).length ≤ 1000000) (D : Option Addr) (n c : Nat) (ds : List UInt8) (hd : Reads w w0.heap.size 1 D n (bytesV ds)) (hnc : n ≤ c) (hn : n ≤ 256) :
    Calls Try.prog 17 #[.pointer (some ⟨gp, 0, none⟩), .int .i64 1, .slice D n c] w fun r w' => r = .returned (.bool true) ∧ PairAt w0 gp b (writeI d 1 ds) w' := by
  obtain ⟨L, h, hb⟩ := h
  exact pair_write1 w0 gp b d L w h hb hl D n c ds w0.heap.size h.ext.size hd hnc hn (fun a _ hlt => ⟨by have := h.lo.1; omega, fun j hj hf => by have := h.lo.2 j hj _ hf; omega⟩)
/-- A segment without data comes to an end. -/
theorem PairAt.comeN {w0 w : World} {gp : Nat} {b : Nat → Nat} {d : PairD} (h : PairAt w0 gp b d w) {i : Nat} (hi : i < 2) (f : Int) (hf : f = 0 ∧ ((d.e i).st = 0 ∨ (d.e i).st = 5) ∨ f = 8) :
    Calls Try.prog 19 #[.pointer (some ⟨b i, 0, none⟩), segV 0 0 f 0 (.slice none 0 0)] w fun r w' => r = .returned (.int .i64 (comeN (d.e i))) ∧ PairAt w0 gp b { d with e := upd d.e i (comeE (d.e i) 0 0 f 0 []) } w' := by
  obtain ⟨L, h, rfl⟩ := h
  refine (come_any w (L.b i) (d.e i) (L.vo i) (L.vi i) 0 0 f 0 none 0 0 [] (h.end_ i hi) (h.ok i hi) ⟨by omega, by omega⟩ ⟨by omega, by omega⟩ (by omega) (by omega) (by omega) (World.ownsRow_nil _ _ _ _) (fun k hk => by cases hk)).mono ?_
  rintro r w' ⟨rfl, hop⟩
  obtain ⟨L', h1, h2, -⟩ := h.endOp hi (come_ok (h.ok i hi) 0 0 f 0 [] ⟨by omega, by omega⟩ ⟨by omega, by omega⟩ (by omega)) hop
  exact ⟨rfl, L', h1, h2⟩
set_option maxHeartbeats 2000000 in
set_option maxRecDepth 100000 in
theorem reset_walk (a b : Int) (ha : U32 a) (hb : U32 b) (A : Option Addr) (n c : Nat) (bs : List UInt8) (w : World) (hr : Reads w w.heap.size 1 A n (bytesV bs)) (hn : n ≤ c) (hc : c ≤ maxLen) :
    Calls Try.prog 5 #[.int .u32 a, .int .u32 b, .slice A n c] w fun r w' => r = .returned (.bool true) ∧ Ext w w' := by
  have HA := hide ha
  have HB := hide hb
  have HMET := hide (met_d ha hb)
  have HR := hide hr
  have HNC := hide hn
  have HC := hide hc
  clear ha hb hr hn hc
  go_enter Try.func5, Try.ntmps5
  go_wp2_with fail
  refine (begin_any w a b HA.out HB.out).mono ?_
  rintro r w1 ⟨gp, bb, rfl, hp1⟩
  have HP1 := hide hp1
  clear hp1
  go_wp2_with fail
  refine (pair_rounds w gp bb (beginP a b) w1 4 HP1.out 0 0 (begin_sound a b) (by omega) (by omega) (by omega)).mono ?_
  rintro r w2 ⟨rfl, hp2⟩
  have HP2 := hide hp2
  clear hp2 HP1
  have HE0 := hide (show (roundsP 4 (beginP a b)).e 0 = opn (P1 a) (P1 b) false from congrArg PairT.x0 HMET.out)
  have HPP := hide (show (roundsP 4 (beginP a b)).p 0 = [] from congrArg PairT.p0 HMET.out)
  generalize roundsP 4 (beginP a b) = d at *
  go_wp2_with fail
  refine (cut_any A n c 64 w2 HNC.out HC.out (by omega)).mono ?_
  rintro r w3 ⟨rfl, rfl⟩
  obtain ⟨m, hm⟩ : ∃ x, min n 64 = x := ⟨_, rfl⟩
  have hm64 : m ≤ 64 := by omega
  have hmn : m ≤ n := by omega
  have HMC := hide (show m ≤ c by have := HNC.out; omega)
  have HRM := hide (show Reads w2 w.heap.size 1 A m (bytesV (bs.take m)) by rw [← bytesV_take]; exact (HP2.out.ext.reads HR.out (Nat.le_refl _)).take hmn)
  rw [hm]
  clear hm hmn
  go_wp2_with fail
  refine (pair_writeA w gp bb d w2 HP2.out (by rw [HPP.out]; simp) A m c (bs.take m) HRM.out HMC.out (by omega)).mono ?_
  rintro r w4 ⟨rfl, hp4⟩
  have HP4 := hide hp4
  obtain ⟨p0, p1⟩ := hp4.ptrs
  have HE4 := hide (show ((writeI d 0 (bs.take m)).e 0).st = 4 by
    show (upd d.e 0 (writeE (d.e 0) (bs.take m)).1 0).st = 4
    rw [upd_same, HE0.out]
    unfold writeE
    split
    · rfl
    split
    · rfl
    split <;> rfl)
  clear hp4 HP2 HRM HE0 HPP
  generalize writeI d 0 (bs.take m) = d2 at *
  go_wp2_with fail
  refine (HP4.out.comeN (i := 0) (by omega) 8 (.inr rfl)).mono ?_
  rintro r w5 ⟨rfl, hp5⟩
  rw [show comeN (d2.e 0) = 0 by unfold comeN; rw [HE4.out]; rfl]
  have hce : comeE (d2.e 0) 0 0 8 0 [] = { d2.e 0 with st := 5 } := by
    unfold comeE
    rw [if_neg (by rw [HE4.out]; omega), if_pos rfl, if_neg (by rw [HE4.out]; omega)]
  rw [hce] at hp5
  have HP5 := hide hp5
  obtain ⟨q0, q1⟩ := hp5.ptrs
  have HE5 := hide (show (({ d2 with e := upd d2.e 0 { d2.e 0 with st := 5 } } : PairD).e 0).st = 5 by show (upd d2.e 0 { d2.e 0 with st := 5 } 0).st = 5; rw [upd_same])
  clear hp5 HP4 p0 p1 hce
  generalize ({ d2 with e := upd d2.e 0 { d2.e 0 with st := 5 } } : PairD) = d3 at *
  go_wp2_with fail
  refine (HP5.out.tell (i := 0) (by omega)).mono ?_
  rintro r w6 ⟨rfl, hp6⟩
  rw [HE5.out]
  have HP6 := hide hp6
  obtain ⟨p0, p1⟩ := hp6.ptrs
  clear hp6 HP5 q0 q1
  go_wp2_with fail
  refine (HP6.out.comeN (i := 0) (by omega) 0 (.inl ⟨rfl, .inr HE5.out⟩)).mono ?_
  rintro r w7 ⟨rfl, hp7⟩
  rw [show comeN (d3.e 0) = 8 by unfold comeN; rw [HE5.out]; rfl]
  have hce : comeE (d3.e 0) 0 0 0 0 [] = d3.e 0 := by
    unfold comeE
    rw [if_pos (.inr HE5.out)]
  rw [hce] at hp7
  have HP7 := hide hp7
  obtain ⟨q0, q1⟩ := hp7.ptrs
  have HO := hide (show (outE (({ d3 with e := upd d3.e 0 (d3.e 0) } : PairD).e 0)).2.length = 0 by
    show (outE (upd d3.e 0 (d3.e 0) 0)).2.length = 0
    rw [upd_same]
    unfold outE
    rw [if_neg (by rw [HE5.out]; omega), if_neg (by rw [HE5.out]; omega)]
    rfl)
  clear hp7 HP6 p0 p1 hce
  generalize ({ d3 with e := upd d3.e 0 (d3.e 0) } : PairD) = d4 at *
  go_wp2_with fail
  refine (HP7.out.outCall (i := 0) (by omega)).mono ?_
  rintro r w8 ⟨⟨A8, c8, rfl⟩, hp8⟩
  rw [HO.out]
  have HP8 := hide hp8
  clear hp8 HP7 q0 q1
  go_wp2_with fail
  go_ret
  exact ⟨rfl, HP8.out.ext⟩
end Go.Proofs.Ytkfpmljlgpobjaa
