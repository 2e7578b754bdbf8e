/- What an open end says, hears, reads and does at a tick, exactly. Plain laws. -/
import Derived.Test.YtkfpmljlgpobjaaFrontP
namespace Go.Proofs.Ytkfpmljlgpobjaa
open Go.RowKit
set_option linter.unusedVariables false

/-- Segments of data one behind the other, from place n to place n1. -/
def Chain (S S' : Int) (P : List UInt8) (r : Nat) (wd : Int) : Nat → Nat → List SegD → Prop
  | n, n1, [] => n = n1
  | n, n1, s :: l => s.fl = 2 ∧ s.seq = sq S n ∧ s.ack = sq S' r ∧ s.wd = wd ∧ s.data = (P.drop n).take s.data.length ∧ 0 < s.data.length ∧ n + s.data.length ≤ P.length ∧ Chain S S' P r wd (n + s.data.length) n1 l
theorem Chain.le {S S' : Int} {P : List UInt8} {r : Nat} {wd : Int} : ∀ {l : List SegD} {n n1 : Nat}, Chain S S' P r wd n n1 l → n + l.length ≤ n1 ∧ (n1 ≤ P.length ∨ n1 = n) ∧ (l = [] ↔ n = n1)
  | [], n, n1, h => by
    have h : n = n1 := h
    exact ⟨by simp [h], .inr h.symm, by simp [h]⟩
  | s :: l, n, n1, h => by
    obtain ⟨h1, h2, h3, h4, h5, h6, h7, h8⟩ := h
    obtain ⟨g1, g2, g3⟩ := Chain.le h8
    refine ⟨by rw [List.length_cons]; omega, by omega, ⟨fun h => by simp at h, fun h => by omega⟩⟩
/-- The same end but for what is said. -/
structure SameE (e e' : EndD) : Prop where
  st : e'.st = e.st
  una : e'.una = e.una
  first : e'.first = e.first
  rcv : e'.rcv = e.rcv
  out : e'.out = e.out
  inn : e'.inn = e.inn
  peer : e'.peer = e.peer
  shut : e'.shut = e.shut
  fin : e'.fin = e.fin
  wait : e'.wait = e.wait
  tries : e'.tries = e.tries
theorem SameE.refl (e : EndD) : SameE e e := ⟨rfl, rfl, rfl, rfl, rfl, rfl, rfl, rfl, rfl, rfl, rfl⟩
theorem SameE.say (e : EndD) (f n : Int) : SameE e (sayE e f n) := ⟨rfl, rfl, rfl, rfl, rfl, rfl, rfl, rfl, rfl, rfl, rfl⟩
theorem SameE.trans {a b c : EndD} (h : SameE a b) (k : SameE b c) : SameE a c :=
  ⟨k.st.trans h.st, k.una.trans h.una, k.first.trans h.first, k.rcv.trans h.rcv, k.out.trans h.out, k.inn.trans h.inn, k.peer.trans h.peer, k.shut.trans h.shut, k.fin.trans h.fin, k.wait.trans h.wait, k.tries.trans h.tries⟩
/-- How far is said. -/
def winE (P : List UInt8) (u : Nat) (peer : Int) : Nat := u + min (P.length - u) (max peer 1).toNat
section
variable {iss iss' : Int} {P P' G : List UInt8} {u n t r : Nat} {e : EndD}
theorem EndI.tle' (h : EndI iss iss' P P' G u n t r e) (hs : e.shut = false) : t ≤ P.length := by have := h.len; rw [hs] at this; simpa using this
theorem live_loop (hP : P.length ≤ 100000) (K : Nat) : ∀ {n t : Nat} {e : EndD}, EndI iss iss' P P' G u n t r e → e.st = 4 → e.shut = false → winE P u e.peer - n ≤ K →
    ∃ t', EndI iss iss' P P' G u (max n (winE P u e.peer)) t' r (outLoop K e).1 ∧ t ≤ t' ∧ SameE e (outLoop K e).1 ∧ (outLoop K e).1.due = (e.due && decide (winE P u e.peer ≤ n)) ∧ Chain (sq iss 1) (sq iss' 1) P r (64 - e.inn.length) n (max n (winE P u e.peer)) (outLoop K e).2 := by
  induction K with
  | zero =>
    intro n t e h h4 hs hK
    refine ⟨t, ?_, Nat.le_refl _, SameE.refl _, ?_, ?_⟩
    · rw [show max n (winE P u e.peer) = n by omega]; exact h
    · rw [decide_eq_true (by omega), Bool.and_true]; rfl
    · show n = _; omega
  | succ K ih =>
    intro n t e h h4 hs hK
    have hat := h.at_ h4 hP
    have htl := h.tle' hs
    have hun := h.un
    have hnt := h.nt
    have hol : e.out.length = P.length - u := by rw [h.out, List.length_drop]
    have hat2 : outAt e = ((n - u : Nat) : Int) := by rw [hat]; congr 1; omega
    have hmx : (max e.peer 1) = ((max e.peer 1).toNat : Int) := by omega
    have hN : outN e = min 32 ((winE P u e.peer : Nat) - (n : Int)) := by
      unfold outN winE
      rw [hat2, hol]
      omega
    rw [outLoop]
    split
    · rename_i hle
      refine ⟨t, ?_, Nat.le_refl _, SameE.refl _, ?_, ?_⟩
      · rw [show max n (winE P u e.peer) = n by omega]; exact h
      · rw [decide_eq_true (by omega), Bool.and_true]
      · show n = _; omega
    rename_i hgt
    have hwP : winE P u e.peer ≤ P.length := by unfold winE; omega
    obtain ⟨m, hm⟩ : ∃ m : Nat, outN e = (m : Int) := ⟨(outN e).toNat, by omega⟩
    have hm0 : 0 < m := by omega
    have hmw : n + m ≤ winE P u e.peer := by omega
    have h1 := h.say_ h4 hP (f := 0) (m := outN e) (j := m) (by rw [span_0, hm]) (by omega)
    obtain ⟨t', g1, g2, g3, g4, g5⟩ := ih h1 h4 hs (by show winE P u e.peer - (n + m) ≤ K; omega)
    have hds : outDs e = (P.drop n).take m := by
      unfold outDs
      rw [hm, hat2, h.out, List.drop_drop]
      congr 2
      omega
    have hdl : (outDs e).length = m := by rw [hds, List.length_take, List.length_drop]; omega
    have hmax : max (n + m) (winE P u (sayE e 0 (outN e)).peer) = max n (winE P u e.peer) := by
      show max (n + m) (winE P u e.peer) = _
      omega
    rw [hmax] at g1 g5
    refine ⟨t', g1, by omega, (SameE.say e 0 (outN e)).trans g3, ?_, ?_⟩
    · dsimp only
      rw [g4, decide_eq_false (show ¬ winE P u e.peer ≤ n by omega), Bool.and_false]
      rfl
    · dsimp only
      have hd : (segOf e 0 (outDs e)).data.length = m := hdl
      refine ⟨?_, (h.opn h4).2.1, ?_, rfl, ?_, by rw [hd]; exact hm0, by rw [hd]; omega, by rw [hd]; exact g5⟩
      · show flE e 0 = 2
        unfold flE
        rw [if_pos (by omega)]
        rfl
      · show ackE e = _
        unfold ackE
        rw [if_pos (by omega)]
        exact h.rcv (.inr h4)
      · rw [hd]
        exact hds
/-- What an open end says: all that the window lets through, and an answer if one is due. -/
theorem live_out (hP : P.length ≤ 100000) (h : EndI iss iss' P P' G u n t r e) (h4 : e.st = 4) (hs : e.shut = false) (hK : P.length - u ≤ 64) :
    ∃ t' l, EndI iss iss' P P' G u (max n (winE P u e.peer)) t' r (outE e).1 ∧ t ≤ t' ∧ SameE e (outE e).1 ∧ (outE e).1.due = false ∧ Chain (sq iss 1) (sq iss' 1) P r (64 - e.inn.length) n (max n (winE P u e.peer)) l ∧
      (outE e).2 = l ++ (if e.due = true ∧ winE P u e.peer ≤ n then [⟨sq (sq iss 1) (max n (winE P u e.peer)), sq (sq iss' 1) r, 2, 64 - e.inn.length, []⟩] else []) := by
  obtain ⟨t', g1, g2, g3, g4, g5⟩ := live_loop hP 64 h h4 hs (by unfold winE; have := h.un; omega)
  have hst : (outLoop 64 e).1.st = 4 := by rw [g3.st, h4]
  have hsh : (outLoop 64 e).1.shut = false := by rw [g3.shut, hs]
  unfold outE
  rw [if_neg (by omega), if_pos h4]
  have hf : outFin (outLoop 64 e) = outLoop 64 e := by unfold outFin; rw [if_neg (by rw [hsh]; simp)]
  rw [hf]
  unfold outDue
  by_cases hd : e.due = true ∧ winE P u e.peer ≤ n
  · have hdue : (outLoop 64 e).1.due = true := by rw [g4, hd.1, decide_eq_true hd.2]; rfl
    rw [if_pos hdue, if_pos hd]
    have htl := g1.tle' hsh
    have hnt := g1.nt
    have h1 := g1.say_ hst hP (f := 0) (m := 0) (j := 0) (by rw [span_0]; rfl) (by omega)
    have ht : max t' (max n (winE P u e.peer) + 0) = t' := by omega
    rw [ht] at h1
    refine ⟨t', _, h1, g2, g3.trans (SameE.say _ 0 0), rfl, g5, ?_⟩
    dsimp only
    congr 2
    unfold segOf
    have e1 : (outLoop 64 e).1.nxt = sq (sq iss 1) (max n (winE P u e.peer)) := (g1.opn hst).2.1
    have e2 : ackE (outLoop 64 e).1 = sq (sq iss' 1) r := by
      unfold ackE
      rw [if_pos (by omega)]
      exact g1.rcv (.inr hst)
    have e3 : flE (outLoop 64 e).1 0 = 2 := by
      unfold flE
      rw [if_pos (by omega)]
      rfl
    rw [e1, e2, e3, g3.inn]
  · have hdue : ¬ (outLoop 64 e).1.due = true := by
      rw [g4]
      intro h5
      rw [Bool.and_eq_true, decide_eq_true_eq] at h5
      exact hd h5
    rw [if_neg hdue, if_neg hd]
    exact ⟨t', _, g1, g2, g3, by simpa using hdue, g5, by simp⟩
/-- One segment that an open end hears. -/
theorem live_one (hP : P.length ≤ 100000) (hP' : P'.length ≤ 100000) (h : EndI iss iss' P P' G u n t r e) (h4 : e.st = 4) (hf : e.fin = false) {m k : Nat} (hu : u ≤ m) (hm : m ≤ t) (ht : t ≤ P.length + 1) {s : SegD}
    (h1 : s.fl = 2) (h2 : s.seq = sq (sq iss' 1) k) (h3 : s.ack = sq (sq iss 1) m) (h5 : s.data = (P'.drop k).take s.data.length) (h6 : k + s.data.length ≤ P'.length) :
    EndI iss iss' P P' G m (max n m) t (if 0 < s.data.length ∧ k = r ∧ e.inn.length + s.data.length ≤ 64 then r + s.data.length else r) (comeS e s) ∧ (comeS e s).st = 4 ∧ (comeS e s).shut = e.shut ∧ (comeS e s).fin = false ∧ (comeS e s).tries = 0 ∧ (comeS e s).peer = s.wd ∧
      (comeS e s).wait = (if u < m then 0 else e.wait) ∧ (comeS e s).due = (e.due || decide (0 < s.data.length)) ∧ (comeS e s).inn.length = e.inn.length + (if 0 < s.data.length ∧ k = r ∧ e.inn.length + s.data.length ≤ 64 then s.data.length else 0) := by
  obtain ⟨e1, e2, e3⟩ := h.opn h4
  have hun := h.un
  have hnt := h.nt
  have hce : comeS e s = takeE (answerE e s.ack s.wd) s.seq 2 s.data := by
    unfold comeS comeE
    rw [if_neg (by omega), if_neg (by omega), if_neg (by omega), if_neg (by omega), if_neg (by omega), if_neg (by omega), h1]
  have hA : EndI iss iss' P P' G m (max n m) t r (answerE e s.ack s.wd) ∧ (answerE e s.ack s.wd).st = 4 ∧ (answerE e s.ack s.wd).shut = e.shut ∧ (answerE e s.ack s.wd).fin = e.fin ∧ (answerE e s.ack s.wd).tries = 0 ∧ (answerE e s.ack s.wd).peer = s.wd ∧ (answerE e s.ack s.wd).wait = (if u < m then 0 else e.wait) ∧ (answerE e s.ack s.wd).due = e.due ∧ (answerE e s.ack s.wd).inn = e.inn := by
    have hM : ansM e s.ack = m - u := by unfold ansM; rw [h3, e1, sq_sub (by omega) (by omega)]; omega
    unfold answerE
    rw [if_neg (by rw [h3, e1, e3, before_sq (by omega) (by omega), before_sq (by omega) (by omega), decide_eq_true_iff, decide_eq_true_iff]; omega)]
    by_cases h0 : m = u
    · rw [if_pos (by omega), if_neg (by omega), show max n m = n by omega, h0]
      exact ⟨⟨h.len, h.un, h.nt, h.first, h.out, h.got, h.fin, h.pre, h.opn, h.rcv, h.st⟩, h4, rfl, rfl, rfl, rfl, rfl, rfl, rfl⟩
    · rw [if_neg (by omega), if_pos (by omega)]
      have hK : ansK e s.ack = min m P.length - min u P.length := by
        unfold ansK
        rw [hM, h.out, List.length_drop]
        omega
      refine ⟨⟨h.len, by omega, by omega, ?_, ?_, h.got, h.fin, fun h1 => ?_, fun _ => ⟨h3, ?_, e3⟩, h.rcv, h.st⟩, h4, rfl, rfl, rfl, rfl, rfl, rfl, rfl⟩
      · show (e.first + (ansK e s.ack : Nat)) % 4294967296 = _
        rw [h.first, hK]
        unfold sq
        omega
      · show e.out.drop (ansK e s.ack) = _
        rw [h.out, List.drop_drop, hK]
        by_cases hmp : m ≤ P.length
        · congr 1; omega
        · rw [List.drop_of_length_le (by omega), List.drop_of_length_le (by omega)]
      · have : e.st = 1 ∨ e.st = 2 ∨ e.st = 3 := h1
        omega
      · show (if beforeB e.nxt s.ack = true then s.ack else e.nxt) = _
        rw [h3, e2, before_sq (by omega) (by omega)]
        simp only [decide_eq_true_eq]
        split
        · congr 1; omega
        · congr 1; omega
  rw [hce]
  obtain ⟨a1, a2, a3, a4, a5, a6, a7, a8, a9⟩ := hA
  generalize answerE e s.ack s.wd = x at *
  have hx : x.inn.length = e.inn.length := by rw [a9]
  have hrcv := a1.rcv (.inr a2)
  have hrP : r ≤ P'.length := by have := h.fin; rw [hf] at this; simpa using this
  rw [hf] at a4
  unfold takeE
  rw [span_2]
  by_cases h0 : s.data.length = 0
  · have hz : ¬ (0 < s.data.length ∧ k = r ∧ e.inn.length + s.data.length ≤ 64) := by omega
    rw [if_neg hz, if_neg hz, if_pos (show ((s.data.length : Nat) : Int) = 0 by omega)]
    refine ⟨a1, a2, a3, a4, a5, a6, a7, ?_, by omega⟩
    rw [a8, decide_eq_false (by omega), Bool.or_false]
  rw [if_neg (show ¬ ((s.data.length : Nat) : Int) = 0 by omega)]
  by_cases hr : k = r ∧ e.inn.length + s.data.length ≤ 64
  · have hc : 0 < s.data.length ∧ k = r ∧ e.inn.length + s.data.length ≤ 64 := ⟨by omega, hr⟩
    rw [if_pos hc, if_pos hc]
    obtain ⟨rfl, hr2⟩ := hr
    have href : ¬ refuseB x s.seq 2 s.data.length = true := by
      unfold refuseB
      rw [a4, hx, h2, hrcv]
      simp
      omega
    rw [if_neg href]
    refine ⟨⟨a1.len, a1.un, a1.nt, a1.first, a1.out, ?_, ?_, fun h7 => ?_, a1.opn, fun _ => ?_, a1.st⟩, a2, a3, rfl, a5, a6, a7, ?_, ?_⟩
    · show G ++ (x.inn ++ s.data) = _
      rw [← List.append_assoc, a1.got, List.take_add, ← h5]
    · show if decide ((2 : Int) / 4 % 2 = 1) = true then k + s.data.length = P'.length + 1 else k + s.data.length ≤ P'.length
      rw [if_neg (by decide)]
      exact h6
    · have : x.st = 1 ∨ x.st = 2 ∨ x.st = 3 := h7
      omega
    · show (x.rcv + spanF 2 s.data.length) % 4294967296 = _
      rw [span_2, hrcv]
      unfold sq
      omega
    · show true = _
      rw [decide_eq_true (by omega), Bool.or_true]
    · show (x.inn ++ s.data).length = _
      rw [List.length_append, hx]
  · have hc : ¬ (0 < s.data.length ∧ k = r ∧ e.inn.length + s.data.length ≤ 64) := fun h => hr h.2
    rw [if_neg hc, if_neg hc]
    have href : refuseB x s.seq 2 s.data.length = true := by
      unfold refuseB
      rw [a4, hx, h2, hrcv]
      by_cases hk : k = r
      · have : decide (64 < e.inn.length + s.data.length) = true := decide_eq_true (by omega)
        rw [this]
        simp
      · have : decide (sq (sq iss' 1) k ≠ sq (sq iss' 1) r) = true := decide_eq_true (fun h8 => hk (sq_inj (by omega) (by omega) h8))
        rw [this]
        simp
    rw [if_pos href]
    refine ⟨⟨a1.len, a1.un, a1.nt, a1.first, a1.out, a1.got, a1.fin, a1.pre, a1.opn, a1.rcv, a1.st⟩, a2, a3, a4, a5, a6, a7, ?_, by show x.inn.length = _; omega⟩
    show true = _
    rw [decide_eq_true (by omega), Bool.or_true]
/-- A chain that an open end hears. -/
theorem live_chain (hP : P.length ≤ 100000) (hP' : P'.length ≤ 100000) {m : Nat} {wd : Int} : ∀ (l : List SegD) {u n r N N1 : Nat} {e : EndD}, EndI iss iss' P P' G u n t r e → e.st = 4 → e.fin = false → u ≤ m → m ≤ t → t ≤ P.length + 1 → l ≠ [] →
    Chain (sq iss' 1) (sq iss 1) P' m wd N N1 l → ∃ r', EndI iss iss' P P' G m (max n m) t r' (comeL e l) ∧ (comeL e l).st = 4 ∧ (comeL e l).shut = e.shut ∧ (comeL e l).fin = false ∧ (comeL e l).tries = 0 ∧ (comeL e l).peer = wd ∧ (comeL e l).wait = (if u < m then 0 else e.wait) ∧ (comeL e l).due = true ∧
      (r < N → r' = r) ∧ (e.inn.length + (N1 - r) ≤ 64 → (r = N → r' = N1) ∧ (r' = r ∨ r' = N1)) ∧ r ≤ r' := by
  intro l
  induction l with
  | nil => exact fun _ _ _ _ _ _ h _ => absurd rfl h
  | cons s l ih =>
    intro u n r N N1 e h h4 hf hu hm ht _ hc
    obtain ⟨c1, c2, c3, c4, c5, c6, c7, c8⟩ := hc
    obtain ⟨g1, g2, g3, g4, g5, g6, g7, g8, g9⟩ := live_one hP hP' h h4 hf hu hm ht c1 c2 c3 c5 c7
    have hcl : comeL e (s :: l) = comeL (comeS e s) l := rfl
    rw [hcl]
    obtain ⟨q1, q2, q3⟩ := c8.le
    by_cases hl : l = []
    · subst hl
      have hN1 : N + s.data.length = N1 := q3.1 rfl
      show ∃ r', EndI iss iss' P P' G m (max n m) t r' (comeS e s) ∧ (comeS e s).st = 4 ∧ _
      refine ⟨_, g1, g2, g3, g4, g5, by rw [← c4]; exact g6, g7, by show (comeS e s).due = true; rw [g8, decide_eq_true c6, Bool.or_true], fun h1 => by rw [if_neg (by omega)], fun h1 => ?_, ?_⟩
      · split <;> omega
      · split <;> omega
    · generalize comeS e s = x at *
      obtain ⟨r', k1, k2, k3, k4, k5, k6, k7, k8, k9, k10, k11⟩ := ih g1 g2 g4 (Nat.le_refl m) hm ht hl c8
      refine ⟨r', ?_, k2, k3.trans g3, k4, k5, k6, ?_, k8, fun h1 => ?_, fun h1 => ?_, by split at k11 <;> omega⟩
      · rw [show max (max n m) m = max n m by omega] at k1
        exact k1
      · rw [k7, if_neg (by omega), g7]
      · rw [if_neg (by omega)] at k9
        exact k9 (by omega)
      · split at k10
        · rename_i hcc
          rw [if_pos hcc] at g9
          have := k10 (by omega)
          refine ⟨fun _ => this.1 (by omega), .inr (this.1 (by omega))⟩
        · rename_i hcc
          rw [if_neg hcc] at g9
          have := k10 (by omega)
          refine ⟨fun h2 => ?_, this.2⟩
          exfalso
          omega
end
end Go.Proofs.Ytkfpmljlgpobjaa
