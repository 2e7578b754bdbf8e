/- A round of two open ends in which nothing is lost: what it comes nearer to. Plain laws. -/
import Derived.Test.YtkfpmljlgpobjaaLiveE
namespace Go.Proofs.Ytkfpmljlgpobjaa
open Go.RowKit
set_option linter.unusedVariables false

/-- An open end between two rounds: nothing lies there that is not read. -/
structure Half (iss iss' : Int) (P P' G : List UInt8) (u n t r : Nat) (e : EndD) : Prop where
  I : EndI iss iss' P P' G u n t r e
  st : e.st = 4
  shut : e.shut = false
  fin : e.fin = false
  inn : e.inn = []
  w0 : 0 ≤ e.wait
  w2 : e.wait ≤ 2
  len : P.length - u ≤ 64
  p : P.length ≤ 100000
  p' : P'.length ≤ 100000
/-- What a round makes of the numbers of an end: s, whether the other end says something; m, what it has received; N, N1, from where to where it says data. -/
structure Numbers (u n r : Nat) (wait tries peer : Int) (n1 m N N1 : Nat) (s : Prop) (u2 n2 r2 : Nat) (wait2 tries2 peer2 : Int) (due2 : Bool) : Prop where
  yes : s → u2 = m ∧ peer2 = 64 ∧ (m = max n1 m → n2 = m ∧ tries2 = 0 ∧ (u < m → wait2 = 0) ∧ (¬ u < m → wait2 = wait)) ∧ (m ≠ max n1 m → u < m → n2 = max n1 m ∧ wait2 = 1 ∧ tries2 = 0) ∧ (m ≠ max n1 m → ¬ u < m → wait + 1 < 3 → n2 = max n1 m ∧ wait2 = wait + 1 ∧ tries2 = 0) ∧ (m ≠ max n1 m → ¬ u < m → ¬ wait + 1 < 3 → n2 = m ∧ wait2 = 0 ∧ tries2 = 1)
  no : ¬ s → u2 = u ∧ peer2 = peer ∧ (u = n1 → n2 = n1 ∧ wait2 = wait ∧ tries2 = tries) ∧ (u ≠ n1 → wait + 1 < 3 → n2 = n1 ∧ wait2 = wait + 1 ∧ tries2 = tries) ∧ (u ≠ n1 → ¬ wait + 1 < 3 → n2 = u ∧ wait2 = 0 ∧ tries2 = tries + 1)
  due : due2 = decide (N < N1)
  far : r < N → r2 = r
  near : N1 - r ≤ 64 → (r = N → r2 = N1) ∧ (r2 = r ∨ r2 = N1)
  nos : ¬ s → N = N1
  mono : r ≤ r2
section
variable {iss iss' : Int} {P P' G G' : List UInt8} {u n t r u' n' t' r' : Nat} {e e' : EndD}
/-- A tick of an open end. -/
theorem live_tick (hP : P.length ≤ 100000) (h : EndI iss iss' P P' G u n t r e) (h4 : e.st = 4) (ht : ¬ u = n → ¬ e.wait + 1 < 3 → e.tries ≤ 5) :
    ∃ n2, EndI iss iss' P P' G u n2 t r (tickE e) ∧ (tickE e).st = 4 ∧ (tickE e).shut = e.shut ∧ (tickE e).fin = e.fin ∧ (tickE e).inn = e.inn ∧ (tickE e).peer = e.peer ∧ (tickE e).due = e.due ∧
      (u = n → n2 = n ∧ (tickE e).wait = e.wait ∧ (tickE e).tries = e.tries) ∧ (u ≠ n → e.wait + 1 < 3 → n2 = n ∧ (tickE e).wait = e.wait + 1 ∧ (tickE e).tries = e.tries) ∧ (u ≠ n → ¬ e.wait + 1 < 3 → n2 = u ∧ (tickE e).wait = 0 ∧ (tickE e).tries = e.tries + 1) := by
  obtain ⟨e1, e2, e3⟩ := h.opn h4
  have hun := h.un
  have hnt := h.nt
  have htl := h.tle
  have hb : begunB e = true := by unfold begunB; exact decide_eq_true (by omega)
  have hiff : e.una = e.nxt ↔ u = n := by
    rw [e1, e2]
    exact ⟨fun h => sq_inj (by omega) (by omega) h, fun h => by rw [h]⟩
  unfold tickE
  by_cases hu : u = n
  · rw [if_pos (.inr (hiff.2 hu))]
    exact ⟨n, h, h4, rfl, rfl, rfl, rfl, rfl, fun _ => ⟨rfl, rfl, rfl⟩, fun h => absurd hu h, fun h => absurd hu h⟩
  rw [if_neg (by rw [hb, hiff]; simp [hu])]
  by_cases hw : e.wait + 1 < 3
  · rw [if_pos hw]
    exact ⟨n, ⟨h.len, h.un, h.nt, h.first, h.out, h.got, h.fin, h.pre, h.opn, h.rcv, h.st⟩, h4, rfl, rfl, rfl, rfl, rfl, fun h => absurd h hu, fun _ _ => ⟨rfl, rfl, rfl⟩, fun _ h => absurd hw h⟩
  rw [if_neg hw, if_neg (by have := ht hu hw; omega)]
  exact ⟨u, ⟨h.len, Nat.le_refl _, by omega, h.first, h.out, h.got, h.fin, fun h1 => absurd (show e.st = 1 ∨ e.st = 2 ∨ e.st = 3 from h1) (by omega), fun h1 => ⟨e1, e1, e3⟩, h.rcv, h.st⟩, h4, rfl, rfl, rfl, rfl, rfl, fun h => absurd h hu, fun _ h => absurd h hw, fun _ _ => ⟨rfl, rfl, rfl⟩⟩
/-- An open end reads all that there is. -/
theorem live_read (h : EndI iss iss' P P' G u n t r e) (h4 : e.st = 4) (hf : e.fin = false) (hl : e.inn.length ≤ 64) (hd : e.inn ≠ [] → e.due = true) :
    EndI iss iss' P P' (G ++ rdG e) u n t r (rdE e) ∧ (rdE e).st = 4 ∧ (rdE e).shut = e.shut ∧ (rdE e).fin = false ∧ (rdE e).inn = [] ∧ (rdE e).peer = e.peer ∧ (rdE e).due = e.due ∧ (rdE e).wait = e.wait ∧ (rdE e).tries = e.tries := by
  by_cases hi : e.inn = []
  · obtain ⟨h1, h2⟩ := rd_none (.inr (.inr h4)) hi hf
    rw [h1, h2, List.append_nil]
    exact ⟨h, h4, rfl, hf, hi, rfl, rfl, rfl, rfl⟩
  · have he : readErr e 64 = none := by
      unfold readErr
      rw [if_neg (by omega), if_neg (by rintro ⟨_, h2, _⟩; exact hi h2)]
    unfold rdE rdG
    rw [he]
    dsimp only
    refine ⟨h.read_ 64, h4, rfl, hf, ?_, rfl, ?_, rfl, rfl⟩
    · show e.inn.drop (readN e 64) = []
      exact List.drop_of_length_le (by unfold readN; omega)
    · show (e.due || _) = e.due
      rw [hd hi]
      rfl
theorem comeL_append (e : EndD) (l m : List SegD) : comeL e (l ++ m) = comeL (comeL e l) m := by simp [comeL]
/-- All that the other end says comes. -/
theorem live_hear (hP : P.length ≤ 100000) (hP' : P'.length ≤ 100000) (h : EndI iss iss' P P' G u n t r e) (h4 : e.st = 4) (hf : e.fin = false) {m N N1 : Nat} (hu : u ≤ m) (hm : m ≤ t) (ht : t ≤ P.length + 1) (hN : N1 ≤ P'.length ∨ N1 = N) (hNN : N1 ≤ P'.length)
    {l : List SegD} (hc : Chain (sq iss' 1) (sq iss 1) P' m 64 N N1 l) {l2 : List SegD} (hl2 : l2 = [] ∨ N = N1 ∧ l2 = [⟨sq (sq iss' 1) N1, sq (sq iss 1) m, 2, 64, []⟩]) (hi : e.inn = []) (hne : l ++ l2 ≠ []) (hd : e.due = false) :
    ∃ r2, EndI iss iss' P P' G m (max n m) t r2 (comeL e (l ++ l2)) ∧ (comeL e (l ++ l2)).st = 4 ∧ (comeL e (l ++ l2)).shut = e.shut ∧ (comeL e (l ++ l2)).fin = false ∧ (comeL e (l ++ l2)).tries = 0 ∧ (comeL e (l ++ l2)).peer = 64 ∧ (comeL e (l ++ l2)).wait = (if u < m then 0 else e.wait) ∧ (comeL e (l ++ l2)).due = decide (N < N1) ∧
      ((comeL e (l ++ l2)).inn ≠ [] → N < N1) ∧ (r < N → r2 = r) ∧ (N1 - r ≤ 64 → (r = N → r2 = N1) ∧ (r2 = r ∨ r2 = N1)) ∧ r ≤ r2 := by
  obtain ⟨q1, q2, q3⟩ := hc.le
  by_cases hl : l = []
  · subst hl
    have hNe : N = N1 := q3.1 rfl
    rcases hl2 with rfl | ⟨_, rfl⟩
    · exact absurd rfl hne
    obtain ⟨g1, g2, g3, g4, g5, g6, g7, g8, g9⟩ := live_one hP hP' h h4 hf hu hm ht (s := ⟨sq (sq iss' 1) N1, sq (sq iss 1) m, 2, 64, []⟩) (k := N1) rfl rfl rfl rfl (by simpa using hNN)
    show ∃ r2, EndI iss iss' P P' G m (max n m) t r2 (comeS e _) ∧ (comeS e _).st = 4 ∧ _
    refine ⟨_, g1, g2, g3, g4, g5, g6, g7, ?_, ?_, fun h1 => ?_, fun h1 => ?_, by simp⟩
    · show (comeS e _).due = _
      rw [g8, hd]
      simp
      omega
    · intro h1
      have : (comeS e ⟨sq (sq iss' 1) N1, sq (sq iss 1) m, 2, 64, []⟩).inn.length = 0 := by rw [g9, hi]; simp
      exact absurd (List.eq_nil_of_length_eq_zero this) h1
    · simp
    · simp
      omega
  · have hNl : N < N1 := by
      have : ¬ N = N1 := fun h1 => hl (q3.2 h1)
      omega
    have h0 : l2 = [] := by
      rcases hl2 with h1 | ⟨h1, _⟩
      · exact h1
      · omega
    subst h0
    rw [List.append_nil]
    obtain ⟨r2, k1, k2, k3, k4, k5, k6, k7, k8, k9, k10, k11⟩ := live_chain hP hP' l h h4 hf hu hm ht hl hc
    rw [hi] at k10
    simp only [List.length_nil, Nat.zero_add] at k10
    exact ⟨r2, k1, k2, k3, k4, k5, k6, k7, by rw [k8, decide_eq_true hNl], fun _ => hNl, k9, k10, k11⟩
/-- One end through a round. -/
theorem half_round (h : Half iss iss' P P' G u n t r e) (h' : Half iss' iss P' P G' u' n' t' r' e') (hrt : r' ≤ t) (hur : u ≤ r') (hur' : u' ≤ r)
    (htr : e.tries ≤ 5 ∨ (e.tries = 6 ∧ ((n = u ∧ u < P.length ∧ e.wait = 0) ∨ e'.due = true))) :
    ∃ u2 n2 t2 r2, Half iss iss' P P' (G ++ rdG (comeL (outE e).1 (outE e').2)) u2 n2 t2 r2 (tickE (rdE (comeL (outE e).1 (outE e').2))) ∧ t ≤ t2 ∧ max n (winE P u e.peer) ≤ t2 ∧
      Numbers u n r e.wait e.tries e.peer (max n (winE P u e.peer)) r' n' (max n' (winE P' u' e'.peer)) (n' < max n' (winE P' u' e'.peer) ∨ e'.due = true) u2 n2 r2 (tickE (rdE (comeL (outE e).1 (outE e').2))).wait (tickE (rdE (comeL (outE e).1 (outE e').2))).tries (tickE (rdE (comeL (outE e).1 (outE e').2))).peer (tickE (rdE (comeL (outE e).1 (outE e').2))).due := by
  obtain ⟨t2, l0, a1, a2, a3, a4, a5, -⟩ := live_out h.p h.I h.st h.shut h.len
  obtain ⟨t2', l, b1, b2, b3, b4, b5, b6⟩ := live_out h'.p h'.I h'.st h'.shut h'.len
  have hsh : (outE e).1.shut = false := by rw [a3.shut, h.shut]
  have hfi : (outE e).1.fin = false := by rw [a3.fin, h.fin]
  have hst : (outE e).1.st = 4 := by rw [a3.st, h.st]
  have hin : (outE e).1.inn = [] := by rw [a3.inn, h.inn]
  have hsh' : (outE e').1.shut = false := by rw [b3.shut, h'.shut]
  have htl := a1.tle' hsh
  have htl' := b1.tle' hsh'
  have hnt' := b1.nt
  have hnt := a1.nt
  have hun := a1.un
  rw [h'.inn] at b5 b6
  simp only [List.length_nil] at b5 b6
  have hw0 := h.w0
  have hw2 := h.w2
  obtain ⟨q1, q2, q3⟩ := b5.le
  generalize hn1 : max n (winE P u e.peer) = n1 at *
  generalize hN1 : max n' (winE P' u' e'.peer) = N1 at *
  have hwN : winE P' u' e'.peer ≤ n' ↔ n' = N1 := by omega
  simp only [hwN] at b6
  have hLl : P.length - r' ≤ 64 := by have := h.len; omega
  have hwp : n < n1 ∨ n = n1 := by omega
  generalize hx : (outE e').2 = L at *
  have hwt : (outE e).1.wait = e.wait := a3.wait
  have htt : (outE e).1.tries = e.tries := a3.tries
  have hpp : (outE e).1.peer = e.peer := a3.peer
  have hwin : n = u → u < P.length → n < n1 := by
    intro h1 h2
    rw [← hn1]
    unfold winE
    omega
  generalize (outE e).1 = x at *
  by_cases hL : L = []
  · subst hL
    have hno : ¬ (n' < N1 ∨ e'.due = true) := by
      have h1 : l = [] := by
        cases l with
        | nil => rfl
        | cons s l => simp at b6
      have h2 : n' = N1 := q3.1 h1
      subst h1
      intro h3
      rcases h3 with h3 | h3
      · omega
      · rw [if_pos ⟨h3, h2⟩] at b6
        simp at b6
    have hNN : n' = N1 := by omega
    show ∃ u2 n2 t2 r2, Half iss iss' P P' (G ++ rdG x) u2 n2 t2 r2 (tickE (rdE x)) ∧ _
    obtain ⟨c1, c2⟩ := rd_none (.inr (.inr hst)) hin hfi
    rw [show comeL x [] = x from rfl, c1, c2, List.append_nil]
    have hdf : ¬ e'.due = true := fun h3 => hno (.inr h3)
    obtain ⟨n2, d1, d2, d3, d4, d5, d6, d7, d8, d9, d10⟩ := live_tick h.p a1 hst (fun h1 h2 => by
      rw [hwt] at h2
      rw [htt]
      rcases htr with h3 | ⟨h3, ⟨h5, h6, h7⟩ | h5⟩
      · exact h3
      · omega
      · exact absurd h5 hdf)
    rw [hwt, htt] at d8 d9 d10
    refine ⟨u, n2, t2, r, ⟨d1, d2, by rw [d3, hsh], by rw [d4, hfi], by rw [d5, hin], ?_, ?_, h.len, h.p, h.p'⟩, a2, hnt, fun h1 => absurd h1 hno, fun _ => ⟨rfl, by rw [d6, hpp], d8, d9, d10⟩, ?_, fun _ => rfl, fun _ => ⟨fun h1 => by omega, .inl rfl⟩, fun _ => hNN, Nat.le_refl r⟩
    · by_cases e1 : u = n1
      · have := (d8 e1).2.1; omega
      · by_cases e2 : e.wait + 1 < 3
        · have := (d9 e1 e2).2.1; omega
        · have := (d10 e1 e2).2.1; omega
    · by_cases e1 : u = n1
      · have := (d8 e1).2.1; omega
      · by_cases e2 : e.wait + 1 < 3
        · have := (d9 e1 e2).2.1; omega
        · have := (d10 e1 e2).2.1; omega
    · rw [d7, a4, decide_eq_false (by omega)]
  · have hyes : n' < N1 ∨ e'.due = true := by
      by_cases h1 : n' < N1
      · exact .inl h1
      · refine .inr ?_
        have h2 : l = [] := q3.2 (by omega)
        subst h2
        cases hdd : e'.due with
        | true => rfl
        | false =>
          rw [hdd, if_neg (by simp)] at b6
          exact absurd (by simpa using b6) hL
    have hl2 : (if e'.due = true ∧ n' = N1 then [(⟨sq (sq iss' 1) N1, sq (sq iss 1) r', 2, 64 - ((0 : Nat) : Int), []⟩ : SegD)] else []) = [] ∨ n' = N1 ∧ (if e'.due = true ∧ n' = N1 then [(⟨sq (sq iss' 1) N1, sq (sq iss 1) r', 2, 64 - ((0 : Nat) : Int), []⟩ : SegD)] else []) = [⟨sq (sq iss' 1) N1, sq (sq iss 1) r', 2, 64, []⟩] := by
      split
      · rename_i hh
        exact .inr ⟨hh.2, rfl⟩
      · exact .inl rfl
    subst b6
    obtain ⟨r2, c1, c2, c3, c4, c5, c6, c7, c8, c9, c10, c11, c12⟩ := live_hear h.p h.p' a1 hst hfi (m := r') (N := n') (N1 := N1) hur (by omega) (by omega) (.inl (by omega)) (by omega) b5 hl2 hin hL a4
    generalize comeL x (l ++ _) = y at *
    have hrP : r ≤ P'.length := by have := h.I.fin; rw [h.fin] at this; simpa using this
    have hr2P : r2 ≤ P'.length := by have := c1.fin; rw [c4] at this; simpa using this
    have hgl : G.length = r := by
      have := congrArg List.length h.I.got
      rw [h.inn, List.append_nil, List.length_take] at this
      omega
    have hlen64 : y.inn.length ≤ 64 := by
      have h1 := congrArg List.length c1.got
      rw [List.length_append, List.length_take] at h1
      have h2 := h'.len
      have h3 : N1 - r ≤ 64 := by omega
      obtain ⟨-, h4⟩ := c11 h3
      omega
    obtain ⟨d1, d2, d3, d4, d5, d6, d7, d8, d9⟩ := live_read c1 c2 c4 hlen64 (fun h1 => by rw [c8, decide_eq_true (c9 h1)])
    generalize rdE y = z at *
    have hz : z.wait = if u < r' then 0 else e.wait := by rw [d8, c7, hwt]
    have hzt : z.tries = 0 := by rw [d9, c5]
    obtain ⟨n2, f1, f2, f3, f4, f5, f6, f7, f8, f9, f10⟩ := live_tick h.p d1 d2 (fun h1 h2 => by omega)
    rw [hz, hzt] at f8 f9 f10
    have hwz : 0 ≤ (tickE z).wait ∧ (tickE z).wait ≤ 2 := by
      by_cases e1 : r' = max n1 r'
      · have := (f8 e1).2.1; split at this <;> omega
      · by_cases e2 : (if u < r' then 0 else e.wait) + 1 < 3
        · have := (f9 e1 e2).2.1; split at this <;> omega
        · have := (f10 e1 e2).2.1; omega
    refine ⟨r', n2, t2, r2, ⟨f1, f2, by rw [f3, d3, c3, hsh], by rw [f4, d4], by rw [f5, d5], hwz.1, hwz.2, hLl, h.p, h.p'⟩, a2, hnt, fun _ => ⟨rfl, by rw [f6, d6, c6], fun e1 => ?_, fun e1 e2 => ?_, fun e1 e2 e3 => ?_, fun e1 e2 e3 => ?_⟩, fun h1 => absurd hyes h1, by rw [f7, d7, c8], c10, c11, fun h1 => absurd hyes h1, c12⟩
    · obtain ⟨g1, g2, g3⟩ := f8 e1
      exact ⟨by omega, g3, fun h1 => by rw [g2, if_pos h1], fun h1 => by rw [g2, if_neg h1]⟩
    · rw [if_pos e2] at f9
      exact f9 e1 (by omega)
    · rw [if_neg e2] at f9
      exact f9 e1 e3
    · rw [if_neg e2] at f10
      obtain ⟨g1, g2, g3⟩ := f10 e1 e3
      exact ⟨g1, g2, by omega⟩
end
end Go.Proofs.Ytkfpmljlgpobjaa
