/- Two ends that have begun meet in a few rounds in which nothing is lost. Plain laws. -/
import Derived.Test.YtkfpmljlgpobjaaLiveT
namespace Go.Proofs.Ytkfpmljlgpobjaa
open Go.RowKit
set_option linter.unusedVariables false

theorem rd_keeps (e : EndD) : (rdE e).st = e.st ∧ (rdE e).nxt = e.nxt ∧ (rdE e).una = e.una ∧ (rdE e).top = e.top ∧ (rdE e).first = e.first ∧ (rdE e).wait = e.wait ∧ (rdE e).shut = e.shut ∧ (rdE e).fin = e.fin ∧ (e.due = true → (rdE e).due = true) := by
  unfold rdE
  split
  · exact ⟨rfl, rfl, rfl, rfl, rfl, rfl, rfl, rfl, fun h => h⟩
  · exact ⟨rfl, rfl, rfl, rfl, rfl, rfl, rfl, rfl, fun h => by show (e.due || _) = true; rw [h]; rfl⟩
theorem tame_rd {e : EndD} {B : Int} (h : Tame e B) : Tame (rdE e) B := by
  unfold rdE
  split
  · exact h
  · exact tame_read h 64
/-- How many rounds are left at most, till both are open. -/
def hsm (x0 x1 : EndD) : Int :=
  if x1.st = 1 then 3 + (if x0.nxt = x0.una then 0 else 3 - x0.wait)
  else if x1.st = 3 then (if x0.st = 2 then 2 + (if x1.nxt = x1.una then 0 else 3 - x1.wait) else if x0.due = true then 1 else if x1.nxt = x1.una then 2 else 5 - x1.wait)
  else 0
theorem comeL_tame {B : Int} (hB : 0 ≤ B) (l : List SegD) : ∀ {e : EndD}, Tame e B → Tame (comeL e l) B := by
  induction l with
  | nil => exact fun h => h
  | cons s l ih => exact fun h => ih (tame_come h hB s)
theorem comeL_open (l : List SegD) : ∀ {e : EndD}, e.st = 4 → (∀ s ∈ l, s.fl ≠ 8) → (comeL e l).st = 4 := by
  induction l with
  | nil => exact fun h _ => h
  | cons s l ih => exact fun h h8 => ih (come_open h (h8 s (List.mem_cons_self ..))).1 (fun x hx => h8 x (List.mem_cons_of_mem _ hx))
section
variable {a b : Int} {P0 P1 G0 G1 : List UInt8} {u0 n0 t0 r0 u1 n1 t1 r1 : Nat} {x0 x1 : EndD}
theorem hs_round (ha : U32 a) (hb : U32 b) (I0 : EndI a b P0 P1 G0 u0 n0 t0 r0 x0) (I1 : EndI b a P1 P0 G1 u1 n1 t1 r1 x1) (hr0 : r0 ≤ t1) (hr1 : r1 ≤ t0) (hs : Hs x0 x1 (fun _ => False) (fun _ => False)) {B : Int} (T0 : Tame x0 B) (T1 : Tame x1 B) (hB0 : 0 ≤ B) (hB : B ≤ 19) (hP0 : P0.length ≤ 100000) :
    let y0 := tickE (rdE (comeL (outE x0).1 ((outE x1).2.take 70)))
    let y1 := tickE (rdE (comeL (outE x1).1 ((outE x0).2.take 70)))
    (x1.st = 4 ∧ y1.st = 4) ∨ hsm y0 y1 < hsm x0 x1 := by
  intro y0 y1
  have w00 := T0.w0
  have w01 := T0.w2
  have w10 := T1.w0
  have w11 := T1.w2
  have hi0 : x0.st = 2 ∨ r0 = 0 → x0.inn = [] := fun h => by
    have h0 : r0 = 0 := by
      rcases h with h | h
      · exact (I0.pre (.inr (.inl h))).2.1
      · exact h
    have := I0.got
    rw [h0, List.take_zero] at this
    exact (List.append_eq_nil_iff.1 this).2
  have keep1 : ∀ z : EndD, Tame z B → (tickE (rdE z)).st = z.st := fun z hz => by
    rw [(tick_case (tame_rd hz) hB).1, (rd_keeps z).1]
  have hT0 : Tame (comeL (outE x0).1 ((outE x1).2.take 70)) B := comeL_tame hB0 _ (tame_same T0 (out_sameE x0))
  have hT1 : Tame (comeL (outE x1).1 ((outE x0).2.take 70)) B := comeL_tame hB0 _ (tame_same T1 (out_sameE x1))
  have st0 : y0.st = (comeL (outE x0).1 ((outE x1).2.take 70)).st := keep1 _ hT0
  have st1 : y1.st = (comeL (outE x1).1 ((outE x0).2.take 70)).st := keep1 _ hT1
  rcases hs.j1 with h1 | h3 | h4
  · -- end 1 listens
    obtain ⟨h2, hn1⟩ := hs.j2 h1
    have o1 : outE x1 = (x1, []) := by unfold outE; rw [if_neg (by omega), if_neg (by omega)]
    have hm : hsm x0 x1 = 3 + (if x0.nxt = x0.una then 0 else 3 - x0.wait) := by unfold hsm; rw [if_pos h1]
    rw [hm]
    refine .inr ?_
    by_cases hn : x0.nxt = x0.una
    · rw [if_pos hn]
      have o0 : outE x0 = (sayE x0 1 0, [segOf x0 1 []]) := by unfold outE; rw [if_pos ⟨.inl h2, hn⟩]
      have f1 : (segOf x0 1 []).fl = 1 := by show flE x0 1 = 1; unfold flE; rw [if_neg (by omega)]
      have c1 : comeL (outE x1).1 ((outE x0).2.take 70) = meetE x1 (segOf x0 1 []).seq (segOf x0 1 []).wd := by
        rw [o0, o1]
        show comeS x1 (segOf x0 1 []) = _
        unfold comeS comeE
        rw [if_neg (by omega), if_neg (by omega), if_pos h1, if_pos f1]
      have c0 : (comeL (outE x0).1 ((outE x1).2.take 70)).st = 2 := by
        rw [o0, o1]
        exact h2
      rw [c0] at st0
      rw [c1] at st1
      have e1 : y1.nxt = y1.una := by
        show (tickE (rdE (comeL (outE x1).1 ((outE x0).2.take 70)))).nxt = (tickE (rdE (comeL (outE x1).1 ((outE x0).2.take 70)))).una
        rw [c1]
        have k := rd_keeps (meetE x1 (segOf x0 1 []).seq (segOf x0 1 []).wd)
        have : (rdE (meetE x1 (segOf x0 1 []).seq (segOf x0 1 []).wd)).nxt = (rdE (meetE x1 (segOf x0 1 []).seq (segOf x0 1 []).wd)).una := by rw [k.2.1, k.2.2.1]; exact hn1
        rw [tick_eq this.symm]
        exact this
      have e2 : y1.st = 3 := st1
      unfold hsm
      rw [if_neg (by omega), if_pos e2, if_pos st0, if_pos e1]
      omega
    · rw [if_neg hn]
      have o0 : outE x0 = (x0, []) := by unfold outE; rw [if_neg (fun h => hn h.2), if_neg (by omega)]
      have y0e : y0 = tickE x0 := by
        show tickE (rdE (comeL (outE x0).1 ((outE x1).2.take 70))) = _
        rw [o0, o1]
        show tickE (rdE x0) = _
        by_cases hf : x0.fin = false
        · rw [(rd_none (.inl h2) (hi0 (.inl h2)) hf).1]
        · exfalso
          have hf1 : x0.fin = true := by simpa using hf
          have := I0.fin
          rw [if_pos hf1] at this
          have := (I0.pre (.inr (.inl h2))).2.1
          omega
      have y1e : y1.st = 1 := by
        rw [st1, o0, o1]
        exact h1
      obtain ⟨k1, k2, k3, k4, k5, k6, k7, k8, k9, k10, k11, k12⟩ := tick_case T0 hB
      have hbg : begunB x0 = true := by unfold begunB; exact decide_eq_true (by omega)
      unfold hsm
      rw [if_pos y1e, y0e]
      rcases k11 (fun h => hn h.symm) hbg with ⟨q1, q2, q3⟩ | ⟨q1, q2⟩
      · rw [q2]
        split <;> omega
      · rw [if_pos q2]
        omega
  · have hni : t1 = 0 ∧ r1 = 0 := ⟨(I1.pre (.inr (.inr h3))).1, (I1.pre (.inr (.inr h3))).2.1⟩
    have hr00 : r0 = 0 := by omega
    have hin0 := hi0 (.inr hr00)
    have hf0 : x0.fin = false := by
      cases hf : x0.fin with
      | false => rfl
      | true => have := I0.fin; rw [if_pos hf] at this; omega
    have hin1 : x1.inn = [] := by
      have := I1.got
      rw [hni.2, List.take_zero] at this
      exact (List.append_eq_nil_iff.1 this).2
    have hf1 : x1.fin = false := by
      cases hf : x1.fin with
      | false => rfl
      | true => have := I1.fin; rw [if_pos hf] at this; omega
    have hrc1 : x1.rcv = (a + 1) % 4294967296 := by
      rw [I1.rcv (.inl h3), hni.2]
      unfold sq
      omega
    have hbg1 : begunB x1 = true := by unfold begunB; exact decide_eq_true (by omega)
    have hu1 : u1 = 0 := by have := I1.un; have := I1.nt; omega
    have hfi1 : x1.first = sq b 1 := by
      rw [I1.first, hu1]
      unfold sq
      simp
    rcases hs.j0 with h2 | h4
    · -- end 0 calls, end 1 is called
      obtain ⟨p1, p2, p3, p4, p5⟩ := I0.pre (.inr (.inl h2))
      have hu0 : u0 = 0 := by have := I0.un; have := I0.nt; omega
      have hfi0 : x0.first = sq a 1 := by
        rw [I0.first, hu0]
        unfold sq
        simp
      have htop := hs.j4 h3 h2
      have hm : hsm x0 x1 = 2 + (if x1.nxt = x1.una then 0 else 3 - x1.wait) := by unfold hsm; rw [if_neg (by omega), if_pos h3, if_pos h2]
      rw [hm]
      refine .inr ?_
      -- what end 0 says
      have o0 : (outE x0).1.st = 2 ∧ (outE x0).1.first = x0.first ∧ (outE x0).1.top = x0.top ∧ (outE x0).1.inn = [] ∧ (outE x0).1.fin = false ∧ ((outE x0).2 = [] ∨ ∃ s : SegD, (outE x0).2 = [s] ∧ s.fl = 1 ∧ s.seq = a) := by
        by_cases hn : x0.nxt = x0.una
        · have o0 : outE x0 = (sayE x0 1 0, [segOf x0 1 []]) := by unfold outE; rw [if_pos ⟨.inl h2, hn⟩]
          obtain ⟨k1, k2, k3⟩ := syn_top I0 ha (.inl h2) hn
          rw [o0]
          refine ⟨h2, rfl, by rw [k1, k3, htop, hfi0], hin0, hf0, .inr ⟨_, rfl, ?_, ?_⟩⟩
          · show flE x0 1 = 1
            unfold flE
            rw [if_neg (by omega)]
          · show x0.nxt = a
            rw [hn, p3]
        · have o0 : outE x0 = (x0, []) := by unfold outE; rw [if_neg (fun h => hn h.2), if_neg (by omega)]
          rw [o0]
          exact ⟨h2, rfl, rfl, hin0, hf0, .inl rfl⟩
      obtain ⟨q1, q2, q3, q4, q5, q6⟩ := o0
      by_cases hn1 : x1.nxt = x1.una
      · rw [if_pos hn1]
        have o1 : outE x1 = (sayE x1 1 0, [segOf x1 1 []]) := by unfold outE; rw [if_pos ⟨.inr h3, hn1⟩]
        have fs : (segOf x1 1 []).fl = 3 := by show flE x1 1 = 3; unfold flE; rw [if_pos (by omega)]; rfl
        have hak : (segOf x1 1 []).ack = sq a 1 := by
          show ackE x1 = _
          unfold ackE
          rw [if_pos (by omega), hrc1]
          rfl
        have c0 : comeL (outE x0).1 ((outE x1).2.take 70) = openE (outE x0).1 (segOf x1 1 []).seq (segOf x1 1 []).wd := by
          rw [o1]
          show comeS (outE x0).1 (segOf x1 1 []) = _
          unfold comeS comeE
          rw [if_neg (by omega), if_neg (by omega), if_neg (by omega), if_pos q1, if_pos ⟨fs, by rw [hak, q2, hfi0], by rw [q3, q2, htop]⟩]
        have y0s : y0.st = 4 := by rw [st0, c0]; rfl
        have y0d : y0.due = true := by
          show (tickE (rdE (comeL (outE x0).1 ((outE x1).2.take 70)))).due = true
          rw [(tick_case (tame_rd hT0) hB).2.2.2.2.2.1, c0]
          exact (rd_keeps _).2.2.2.2.2.2.2.2 rfl
        unfold hsm
        split
        · rename_i h
          exfalso
          rw [st1, o1] at h
          rcases q6 with q6 | ⟨s, q6, q7, q8⟩
          · rw [q6] at h
            have : x1.st = 1 := h
            omega
          · rw [q6] at h
            have h : (comeS (sayE x1 1 0) s).st = 1 := h
            unfold comeS comeE at h
            rw [if_neg (show ¬ ((sayE x1 1 0).st = 0 ∨ (sayE x1 1 0).st = 5) by show ¬ (x1.st = 0 ∨ x1.st = 5); omega), if_neg (by omega), if_neg (show ¬ (sayE x1 1 0).st = 1 by show ¬ x1.st = 1; omega), if_neg (show ¬ (sayE x1 1 0).st = 2 by show ¬ x1.st = 2; omega), if_pos (show (sayE x1 1 0).st = 3 from h3), if_pos (by omega)] at h
            split at h
            · have : x1.st = 1 := h
              omega
            · have : x1.st = 1 := h
              omega
        split
        · rw [if_neg (show ¬ y0.st = 2 by omega)]
          first | omega | (rw [if_pos y0d]; omega)
        · omega
      · rw [if_neg hn1]
        have o1 : outE x1 = (x1, []) := by unfold outE; rw [if_neg (fun h => hn1 h.2), if_neg (by omega)]
        have y0s : y0.st = 2 := by rw [st0, o1]; exact q1
        have key : ∀ z : EndD, z.st = 3 → z.una = x1.una → z.wait = x1.wait → z.inn = [] → z.fin = false → (z.nxt = x1.nxt ∨ z.nxt = z.una) → Tame z B → (tickE (rdE z)).st = 3 ∧ ((tickE (rdE z)).nxt = (tickE (rdE z)).una ∨ (x1.wait + 1 < 3 ∧ (tickE (rdE z)).wait = x1.wait + 1)) := by
          intro z z1 z2 z3 z4 z5 z6 z7
          rw [(rd_none (.inr (.inl z1)) z4 z5).1]
          obtain ⟨k1, k2, k3, k4, k5, k6, k7, k8, k9, k10, k11, k12⟩ := tick_case z7 hB
          refine ⟨k1.trans z1, ?_⟩
          by_cases e : z.una = z.nxt
          · rw [k10 e]
            exact .inl e.symm
          · have hbz : begunB z = true := by unfold begunB; exact decide_eq_true (by omega)
            rcases k11 e hbz with ⟨g1, g2, g3⟩ | ⟨g1, g2⟩
            · exact .inr ⟨by rw [← z3]; exact g1, by rw [g2, z3]⟩
            · exact .inl g2
        have y1s : y1.st = 3 ∧ (y1.nxt = y1.una ∨ (x1.wait + 1 < 3 ∧ y1.wait = x1.wait + 1)) := by
          show (tickE (rdE (comeL (outE x1).1 ((outE x0).2.take 70)))).st = 3 ∧ ((tickE (rdE (comeL (outE x1).1 ((outE x0).2.take 70)))).nxt = (tickE (rdE (comeL (outE x1).1 ((outE x0).2.take 70)))).una ∨ _ ∧ (tickE (rdE (comeL (outE x1).1 ((outE x0).2.take 70)))).wait = _)
          rw [o1]
          rcases q6 with q6 | ⟨s, q6, q7, q8⟩
          · rw [q6]
            exact key x1 h3 rfl rfl hin1 hf1 (.inl rfl) T1
          · rw [q6]
            have hc : comeL x1 [s] = { x1 with nxt := x1.una } := by
              show comeS x1 s = _
              unfold comeS comeE
              rw [if_neg (by omega), if_neg (by omega), if_neg (by omega), if_neg (by omega), if_pos h3, if_pos (by omega), if_pos (by rw [q8, hrc1])]
            show (tickE (rdE (comeL x1 [s]))).st = 3 ∧ _
            rw [show ([s] : List SegD).take 70 = [s] from rfl, hc]
            exact key _ h3 rfl rfl hin1 hf1 (.inr rfl) ⟨T1.w0, T1.w2, T1.t0, T1.q, T1.out, T1.inn⟩
        obtain ⟨g1, g2⟩ := y1s
        unfold hsm
        rw [if_neg (by omega), if_pos g1, if_pos y0s]
        rcases g2 with g2 | ⟨g2, g3⟩
        · rw [if_pos g2]; omega
        · split <;> omega
    · -- end 0 is open, end 1 is called
      have htop := hs.j5 h4 h3
      have hm : hsm x0 x1 = if x0.due = true then 1 else if x1.nxt = x1.una then 2 else 5 - x1.wait := by unfold hsm; rw [if_neg (by omega), if_pos h3, if_neg (by omega)]
      have hm1 : 1 ≤ hsm x0 x1 := by rw [hm]; split <;> (try split) <;> omega
      have hK : P0.length - u0 ≤ 64 := by have := T0.out; rw [I0.out, List.length_drop] at this; exact this
      obtain ⟨t2, l, g1, g2, g3, g4, g5, g6⟩ := live_out hP0 I0 h4 hs.s0 hK
      -- what end 1 says
      have o1 : (outE x1).1.st = 3 ∧ (outE x1).1.first = x1.first ∧ (outE x1).1.top = x1.top ∧ (outE x1).1.inn = [] ∧ (outE x1).1.fin = false := by
        have k := out_sameE x1
        refine ⟨k.st.trans h3, k.first, ?_, k.inn.trans hin1, k.fin.trans hf1⟩
        by_cases hn : x1.nxt = x1.una
        · have o1 : outE x1 = (sayE x1 1 0, [segOf x1 1 []]) := by unfold outE; rw [if_pos ⟨.inr h3, hn⟩]
          obtain ⟨k1, k2, k3⟩ := syn_top I1 hb (.inr h3) hn
          rw [o1]
          show (sayE x1 1 0).top = _
          rw [k1, k3, htop, hfi1]
        · have o1 : outE x1 = (x1, []) := by unfold outE; rw [if_neg (fun h => hn h.2), if_neg (by omega)]
          rw [o1]
      obtain ⟨q1, q2, q3, q4, q5⟩ := o1
      refine .inr ?_
      have y0s : y0.st = 4 := by
        rw [st0]
        refine comeL_open _ (g3.st.trans h4) (fun s hm => ?_)
        have hm := List.mem_of_mem_take hm
        unfold outE at hm
        by_cases hn : x1.nxt = x1.una
        · rw [if_pos ⟨.inr h3, hn⟩] at hm
          obtain rfl := List.mem_singleton.1 hm
          show flE x1 1 ≠ 8
          unfold flE
          rw [if_pos (by omega)]
          omega
        · rw [if_neg (fun h => hn h.2), if_neg (by omega)] at hm
          simp at hm
      by_cases hL : (outE x0).2 = []
      · have hnd : ¬ x0.due = true := by
          intro hd
          rw [hL] at g6
          have hl : l = [] := by
            cases l with
            | nil => rfl
            | cons s l => simp at g6
          subst hl
          have := g5.le.2.2.1 rfl
          rw [if_pos ⟨hd, by omega⟩] at g6
          simp at g6
        rw [hm, if_neg hnd]
        have y1e : y1 = tickE (rdE (outE x1).1) := by
          show tickE (rdE (comeL (outE x1).1 ((outE x0).2.take 70))) = _
          rw [hL]
          rfl
        have y1s : y1.st = 3 := by rw [st1, hL]; exact q1
        by_cases hn : x1.nxt = x1.una
        · rw [if_pos hn]
          have o1 : outE x1 = (sayE x1 1 0, [segOf x1 1 []]) := by unfold outE; rw [if_pos ⟨.inr h3, hn⟩]
          have fs : (segOf x1 1 []).fl = 3 := by show flE x1 1 = 3; unfold flE; rw [if_pos (by omega)]; rfl
          have c0 : (comeL (outE x0).1 ((outE x1).2.take 70)).due = true := by
            rw [o1]
            show (comeS (outE x0).1 (segOf x1 1 [])).due = true
            have h4' := g3.st.trans h4
            unfold comeS comeE
            rw [if_neg (by omega), if_neg (by omega), if_neg (by omega), if_neg (by omega), if_neg (by omega), if_pos (by omega), fs]
            unfold takeE
            rw [if_neg (by show ¬ spanF 3 (([] : List UInt8).length : Int) = 0; simp [spanF]), if_pos (by unfold refuseB; simp)]
          have y0d : y0.due = true := by
            show (tickE (rdE (comeL (outE x0).1 ((outE x1).2.take 70)))).due = true
            rw [(tick_case (tame_rd hT0) hB).2.2.2.2.2.1]
            exact (rd_keeps _).2.2.2.2.2.2.2.2 c0
          unfold hsm
          rw [if_neg (by omega), if_pos y1s, if_neg (by omega), if_pos y0d]
          omega
        · rw [if_neg hn]
          have o1 : outE x1 = (x1, []) := by unfold outE; rw [if_neg (fun h => hn h.2), if_neg (by omega)]
          rw [o1, (rd_none (.inr (.inl h3)) hin1 hf1).1] at y1e
          obtain ⟨k1, k2, k3, k4, k5, k6, k7, k8, k9, k10, k11, k12⟩ := tick_case T1 hB
          unfold hsm
          rw [if_neg (by omega), if_pos y1s, if_neg (by omega)]
          split
          · omega
          · rw [y1e]
            rcases k11 (fun h => hn h.symm) hbg1 with ⟨e1, e2, e3⟩ | ⟨e1, e2⟩
            · rw [e2]
              split <;> omega
            · rw [if_pos e2]
              omega
      · -- end 0 says something: end 1 opens
        have y1s : y1.st = 4 := by
          rw [st1]
          have hfl := out_open_fl h4 hs.s0
          have hack : ∀ s ∈ (outE x0).2, s.ack = sq b 1 := by
            intro s hm
            rw [g6] at hm
            have hch : ∀ (l : List SegD) (N N1 : Nat), Chain (sq a 1) (sq b 1) P0 r0 (64 - x0.inn.length) N N1 l → ∀ s ∈ l, s.ack = sq b 1 := by
              intro l
              induction l with
              | nil => exact fun _ _ _ s hs => by simp at hs
              | cons y l ih =>
                intro N N1 hc s hs
                obtain ⟨_, _, c3, _, _, _, _, c8⟩ := hc
                rcases List.mem_cons.1 hs with rfl | hs
                · rw [c3, hr00]
                  unfold sq
                  omega
                · exact ih _ _ c8 s hs
            rcases List.mem_append.1 hm with hm | hm
            · exact hch l _ _ g5 s hm
            · split at hm
              · obtain rfl := List.mem_singleton.1 hm
                show sq (sq b 1) r0 = sq b 1
                rw [hr00]
                unfold sq
                omega
              · simp at hm
          generalize (outE x0).2 = L at *
          cases L with
          | nil => exact absurd rfl hL
          | cons s L =>
            have f2 := hfl s (List.mem_cons_self ..)
            have a2 := hack s (List.mem_cons_self ..)
            show (comeL (comeS (outE x1).1 s) (L.take 69)).st = 4
            refine comeL_open _ ?_ (fun y hy => by rw [hfl y (List.mem_cons_of_mem _ (List.mem_of_mem_take hy))]; omega)
            unfold comeS comeE
            rw [if_neg (by omega), if_neg (by omega), if_neg (by omega), if_neg (by omega), if_pos q1, if_neg (by omega), if_pos ⟨by rw [a2, q2, hfi1], by rw [q3, q2, htop]⟩]
            exact (take_keeps _ _ _ _).1
        have : hsm y0 y1 = 0 := by
          unfold hsm
          rw [if_neg (by omega), if_neg (by omega)]
        omega
  · -- both are open
    refine .inl ⟨h4, ?_⟩
    rw [st1]
    refine comeL_open _ ((out_sameE x1).st.trans h4) (fun s hm => ?_)
    rw [out_open_fl (hs.j3 h4) hs.s0 s (List.mem_of_mem_take hm)]
    omega
end
end Go.Proofs.Ytkfpmljlgpobjaa
