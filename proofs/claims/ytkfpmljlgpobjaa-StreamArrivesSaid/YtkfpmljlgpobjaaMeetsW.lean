/- The walk of StreamMeets. -/
import Derived.Test.YtkfpmljlgpobjaaPairT
namespace Go.Proofs.Ytkfpmljlgpobjaa
open Go.RowKit
set_option linter.unusedVariables false

theorem PairAt.tell {w0 w : World} {gp : Nat} {b : Nat → Nat} {d : PairD} (h : PairAt w0 gp b d w) {i : Nat} (hi : i < 2) :
    Calls Try.prog 13 #[.pointer (some ⟨b i, 0, none⟩)] w fun r w' => r = .returned (.tuple #[.int .i64 (d.e i).st, .int .i64 (d.e i).out.length, .int .i64 (d.e i).inn.length]) ∧ PairAt w0 gp b d w' := by
  obtain ⟨L, h, rfl⟩ := h
  obtain ⟨Ao, co, hvo, -⟩ := own_form (h.end_ i hi).out
  obtain ⟨Ai, ci, hvi, -⟩ := own_form (h.end_ i hi).inn
  have hb := (h.end_ i hi).box
  rw [hvo, hvi] at hb
  refine (tell_any w (L.b i) (d.e i) Ao _ co Ai _ ci hb).mono ?_
  rintro r w' ⟨rfl, n, rfl⟩
  exact ⟨rfl, L, h.extend ((Ext.refl w).drewN n), rfl⟩
theorem PairAt.outCall {w0 w : World} {gp : Nat} {b : Nat → Nat} {d : PairD} (h : PairAt w0 gp b d w) {i : Nat} (hi : i < 2) :
    Calls Try.prog 11 #[.pointer (some ⟨b i, 0, none⟩)] w fun r w' => (∃ A c, r = .returned (.slice A (outE (d.e i)).2.length c)) ∧ PairAt w0 gp b { d with e := upd d.e i (outE (d.e i)).1 } w' := by
  obtain ⟨L, h, rfl⟩ := h
  refine (out_any w (L.b i) (d.e i) (L.vo i) (L.vi i) (h.end_ i hi) (h.ok i hi)).mono ?_
  rintro r w' ⟨A, c, rfl, hat⟩
  exact ⟨⟨A, c, rfl⟩, L, h.outed hi (Ext.refl w) hat, rfl⟩
theorem PairAt.ext {w0 w : World} {gp : Nat} {b : Nat → Nat} {d : PairD} (h : PairAt w0 gp b d w) : Ext w0 w := by
  obtain ⟨L, h, _⟩ := h
  exact h.ext

set_option maxHeartbeats 2000000 in
set_option maxRecDepth 100000 in
theorem meets_walk (a b : Int) (ha : U32 a) (hb : U32 b) (w : World) :
    Calls Try.prog 4 #[.int .u32 a, .int .u32 b] w fun r w' => r = .returned (.bool true) ∧ Ext w w' := by
  have HA := hide ha
  have HB := hide hb
  have HMET := hide (met_d ha hb)
  clear ha hb
  go_enter Try.func4, Try.ntmps4
  go_wp2_with fail
  refine (begin_any w a b HA.out HB.out).mono ?_
  rintro r w1 ⟨gp, bb, rfl, hp1⟩
  have HP1 := hide hp1
  clear hp1
  go_wp2_with fail
  refine (pair_rounds w gp bb (beginP a b) w1 4 HP1.out 0 0 (begin_sound a b) (by omega) (by omega) (by omega)).mono ?_
  rintro r w2 ⟨rfl, hp2⟩
  have HP2 := hide hp2
  obtain ⟨p0, p1⟩ := hp2.ptrs
  clear hp2 HP1
  have HE0 := hide (show (roundsP 4 (beginP a b)).e 0 = opn (P1 a) (P1 b) false from congrArg PairT.x0 HMET.out)
  have HE1 := hide (show (roundsP 4 (beginP a b)).e 1 = opn (P1 b) (P1 a) false from congrArg PairT.x1 HMET.out)
  generalize roundsP 4 (beginP a b) = d at *
  go_wp2_with fail
  refine (HP2.out.tell (i := 0) (by omega)).mono ?_
  rintro r w3 ⟨rfl, hp3⟩
  rw [HE0.out]
  have HP3 := hide hp3
  obtain ⟨q0, q1⟩ := hp3.ptrs
  clear hp3 HP2 p0 p1
  go_wp2_with fail
  refine (HP3.out.tell (i := 1) (by omega)).mono ?_
  rintro r w4 ⟨rfl, hp4⟩
  rw [HE1.out]
  have HP4 := hide hp4
  obtain ⟨p0, p1⟩ := hp4.ptrs
  clear hp4 HP3 q0 q1
  have hs0 : (opn (P1 a) (P1 b) false).st = 4 := rfl
  have hs1 : (opn (P1 b) (P1 a) false).st = 4 := rfl
  go_wp2_with fail
  refine (HP4.out.outCall (i := 0) (by omega)).mono ?_
  rintro r w5 ⟨⟨A5, c5, rfl⟩, hp5⟩
  rw [HE0.out, out_opn (P1_u a)]
  have HP5 := hide hp5
  obtain ⟨q0, q1⟩ := hp5.ptrs
  clear hp5 HP4 p0 p1
  go_wp2_with fail
  refine (HP5.out.outCall (i := 1) (by omega)).mono ?_
  rintro r w6 ⟨⟨A6, c6, rfl⟩, hp6⟩
  have he : upd d.e 0 (outE (d.e 0)).1 1 = opn (P1 b) (P1 a) false := by rw [upd_other _ _ (by decide)]; exact HE1.out
  dsimp only
  rw [he, out_opn (P1_u b)]
  have HP6 := hide hp6
  clear hp6 HP5 q0 q1 he
  go_wp2_with fail
  go_ret
  exact ⟨rfl, HP6.out.ext⟩
end Go.Proofs.Ytkfpmljlgpobjaa
