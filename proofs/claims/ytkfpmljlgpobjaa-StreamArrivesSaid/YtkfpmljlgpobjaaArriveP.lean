/- Whatever happened, forty rounds in which nothing is lost bring all that was written. Plain laws. -/
import Derived.Test.YtkfpmljlgpobjaaLiveH
namespace Go.Proofs.Ytkfpmljlgpobjaa
open Go.RowKit
set_option linter.unusedVariables false

structure LiveP (a b : Int) (d : PairD) (B : Int) : Prop where
  safe : SafeP (issF a b) d
  hs : Hs (d.e 0) (d.e 1) (fun s => s ∈ d.y 0) (fun s => s ∈ d.y 1)
  t0 : Tame (d.e 0) B
  t1 : Tame (d.e 1) B
  put : PutLe d 100000
section
variable {a b : Int} {d : PairD} {B : Int}
theorem LiveP.ends (h : LiveP a b d B) : ∃ u0 n0 t0 r0 u1 n1 t1 r1, EndI a b (d.p 0) (d.p 1) (d.g 0) u0 n0 t0 r0 (d.e 0) ∧ EndI b a (d.p 1) (d.p 0) (d.g 1) u1 n1 t1 r1 (d.e 1) ∧ r1 ≤ t0 ∧ r0 ≤ t1 ∧ u0 ≤ r1 ∧ u1 ≤ r0 := by
  obtain ⟨u, n, t, r, h1, h2⟩ := h.safe
  exact ⟨u 0, n 0, t 0, r 0, u 1, n 1, t 1, r 1, h1.end_ 0 (by omega), h1.end_ 1 (by omega), h1.rt 0 (by omega), h1.rt 1 (by omega), h1.ur 0 (by omega), h1.ur 1 (by omega)⟩
theorem live_sayI0 (ha : U32 a) (h : LiveP a b d B) : LiveP a b (sayI d 0) B := by
  obtain ⟨u0, n0, t0, r0, u1, n1, t1, r1, I0, I1, -⟩ := h.ends
  refine ⟨safe_sayI h.safe h.put (by omega), ?_, tame_same h.t0 (out_sameE _), h.t1, h.put⟩
  refine (h.hs.out0 I0 ha).less (fun s hs => hs) (fun s hs => ?_)
  have hs : s ∈ d.y 1 ++ (outE (d.e 0)).2.take 70 := hs
  rcases List.mem_append.1 hs with h1 | h1
  · exact .inl h1
  · exact .inr (List.mem_of_mem_take h1)
theorem live_sayI1 (hb : U32 b) (h : LiveP a b d B) : LiveP a b (sayI d 1) B := by
  obtain ⟨u0, n0, t0, r0, u1, n1, t1, r1, I0, I1, -⟩ := h.ends
  refine ⟨safe_sayI h.safe h.put (by omega), ?_, h.t0, tame_same h.t1 (out_sameE _), h.put⟩
  refine (h.hs.out1 I1 hb).less (fun s hs => ?_) (fun s hs => hs)
  have hs : s ∈ d.y 0 ++ (outE (d.e 1)).2.take 70 := hs
  rcases List.mem_append.1 hs with h1 | h1
  · exact .inl h1
  · exact .inr (List.mem_of_mem_take h1)
theorem live_sayP (ha : U32 a) (hb : U32 b) (h : LiveP a b d B) : LiveP a b (sayP d) B := live_sayI1 hb (live_sayI0 ha h)
/-- A segment that is on its way comes. -/
theorem live_come (hB : 0 ≤ B) (h : LiveP a b d B) {i : Nat} (hi : i < 2) {s : SegD} (hs : s ∈ d.y i) : LiveP a b { d with e := upd d.e i (comeS (d.e i) s) } B := by
  refine ⟨Safe.come h.safe h.put hi hs, ?_, ?_, ?_, h.put⟩
  · rcases lt2 hi with rfl | rfl
    · exact h.hs.come0 hs
    · exact h.hs.come1 hs
  · rcases lt2 hi with rfl | rfl
    · exact tame_come h.t0 hB s
    · exact h.t0
  · rcases lt2 hi with rfl | rfl
    · exact h.t1
    · exact tame_come h.t1 hB s
theorem live_ways (h : LiveP a b d B) {y : Nat → List SegD} (hy : ∀ i, i < 2 → ∀ s ∈ y i, s ∈ d.y i) : LiveP a b { d with y := y } B :=
  ⟨Safe.less h.safe hy, h.hs.less (fun s hs => hy 0 (by omega) s hs) (fun s hs => hy 1 (by omega) s hs), h.t0, h.t1, h.put⟩
theorem upd_upd {α : Type} (f : Nat → α) (i : Nat) (x y : α) : upd (upd f i x) i y = upd f i y := by
  funext j
  unfold upd
  split <;> rfl
theorem live_comes (hB : 0 ≤ B) {i : Nat} (hi : i < 2) (l : List SegD) : ∀ {d : PairD}, LiveP a b d B → (∀ s ∈ l, s ∈ d.y i) → LiveP a b { d with e := upd d.e i (comeL (d.e i) l) } B := by
  induction l with
  | nil =>
    intro d h _
    have : upd d.e i (comeL (d.e i) []) = d.e := by
      funext j
      unfold upd
      split
      · rename_i e
        subst e
        rfl
      · rfl
    rw [this]
    exact h
  | cons s l ih =>
    intro d h hl
    have h1 := live_come hB h hi (hl s (List.mem_cons_self ..))
    have h2 := ih h1 (fun x hx => hl x (List.mem_cons_of_mem _ hx))
    have e : upd (upd d.e i (comeS (d.e i) s)) i (comeL (upd d.e i (comeS (d.e i) s) i) l) = upd d.e i (comeL (d.e i) (s :: l)) := by
      rw [upd_upd, upd_same]
      rfl
    dsimp only at h2
    rw [e] at h2
    exact h2
theorem live_comeI (hB : 0 ≤ B) (h : LiveP a b d B) {i : Nat} (hi : i < 2) : LiveP a b (comeI d i) B :=
  live_ways (live_comes hB hi (d.y i) h (fun s hs => hs)) (y := upd d.y i []) (fun j hj s hs => by
    unfold upd at hs
    split at hs
    · simp at hs
    · exact hs)
theorem live_readI (h : LiveP a b d B) {i : Nat} (hi : i < 2) : LiveP a b (readI d i) B := by
  refine ⟨safe_readI h.safe hi, ?_, ?_, ?_, ?_⟩
  · unfold readI
    split
    · exact h.hs
    · rcases lt2 hi with rfl | rfl
      · exact h.hs.same0 rfl (fun _ a => a) rfl
      · exact h.hs.same1 rfl (fun _ a => a) rfl (fun _ a => a)
  · unfold readI
    split
    · exact h.t0
    · rcases lt2 hi with rfl | rfl
      · exact tame_read h.t0 64
      · exact h.t0
  · unfold readI
    split
    · exact h.t1
    · rcases lt2 hi with rfl | rfl
      · exact h.t1
      · exact tame_read h.t1 64
  · have : (readI d i).p = d.p := by unfold readI; split <;> rfl
    intro j hj
    rw [this]
    exact h.put j hj
theorem live_tick0 (h : LiveP a b d B) (h1 : Tame (d.e 0) (B - 1)) (hB : B ≤ 20) : LiveP a b (tickI d 0) B :=
  ⟨safe_tickI h.safe (by omega), h.hs.tick0 h1 (by omega), by have := tame_tick h1; rw [Int.sub_add_cancel] at this; exact this, h.t1, h.put⟩
theorem live_ticks (h : LiveP a b d B) (hB : B ≤ 19) : LiveP a b (tickI (tickI d 0) 1) (B + 1) :=
  ⟨safe_tickI (safe_tickI h.safe (by omega)) (by omega), (h.hs.tick0 h.t0 hB).tick1 h.t1 hB, tame_tick h.t0, tame_tick h.t1, h.put⟩
theorem LiveP.mono {B' : Int} (h : LiveP a b d B) (hb : B ≤ B') : LiveP a b d B' := ⟨h.safe, h.hs, h.t0.mono hb, h.t1.mono hb, h.put⟩
theorem live_round (ha : U32 a) (hb : U32 b) (h : LiveP a b d B) (h0 : 0 ≤ B) (hB : B ≤ 19) : LiveP a b (roundP d) (B + 1) :=
  live_ticks (live_readI (live_readI (live_comeI h0 (live_comeI h0 (live_sayP ha hb h) (i := 0) (by omega)) (i := 1) (by omega)) (i := 0) (by omega)) (i := 1) (by omega)) hB
theorem live_turnI (h : LiveP a b d B) (h0 : 0 ≤ B) (tk : Nat) (ht : B = ((min tk 9 : Nat) : Int)) (hp : PutLe d 99960) (t : TurnD) : LiveP a b (turnI d tk t).1 ((min (turnI d tk t).2 9 : Nat) : Int) := by
  have hi := endOf_lt t
  have hput : PutLe (turnI d tk t).1 100000 := fun i hi => Nat.le_trans (put_turnI hp tk t i hi) (by omega)
  have hsafe := safe_turnI h.safe h.put tk t
  unfold turnI at hput hsafe ⊢
  dsimp only at hput hsafe ⊢
  split
  · rename_i hk
    rw [if_pos hk] at hput hsafe
    dsimp only at hput hsafe ⊢
    rw [← ht]
    obtain ⟨k1, k2, k3, k4, k5, k6⟩ := write_keeps (d.e (endOf t)) (t.data.take 40)
    generalize endOf t = i at *
    refine ⟨hsafe, ?_, ?_, ?_, hput⟩
    · rcases lt2 hi with rfl | rfl
      · exact h.hs.same0 (y := (writeE (d.e 0) (t.data.take 40)).1) k1 (fun _ a => by rw [k3, k4]; exact a) k2
      · exact h.hs.same1 (y := (writeE (d.e 1) (t.data.take 40)).1) k1 (fun _ a => by rw [k3, k4]; exact a) k2 (fun _ a => by rw [k5, k6]; exact a)
    · rcases lt2 hi with rfl | rfl
      · exact tame_write h.t0 _
      · exact h.t0
    · rcases lt2 hi with rfl | rfl
      · exact h.t1
      · exact tame_write h.t1 _
  split
  · rw [← ht]
    exact live_readI h hi
  split
  · dsimp only
    rw [← ht]
    split
    · exact live_ways h (fun j hj x hx => mem_upd (fun y hy => List.mem_of_mem_eraseIdx hy) hx)
    · exact h
  split
  · dsimp only
    rw [← ht]
    split
    · refine live_ways h (fun j hj x hx => mem_upd (fun y hy => ?_) hx)
      rcases List.mem_append.1 hy with h1 | h1
      · exact h1
      · exact List.mem_of_getElem? (Option.mem_toList.1 h1)
    · exact h
  split
  · dsimp only
    rw [← ht]
    split
    · unfold getI
      split
      · rename_i s hs
        exact live_ways (live_come h0 h hi (List.mem_of_getElem? hs)) (fun j hj x hx => mem_upd (fun y hy => List.mem_of_mem_eraseIdx hy) hx)
      · exact h
    · exact h
  · dsimp only
    split
    · rename_i hlt
      exact (live_ticks h (by omega)).mono (by omega)
    · exact h.mono (by omega)
theorem live_turns (ha : U32 a) (hb : U32 b) (l : List TurnD) : ∀ (s : PairD × Nat) (K : Nat), LiveP a b s.1 ((min s.2 9 : Nat) : Int) → PutLe s.1 K → K + 40 * l.length ≤ 99960 → LiveP a b (l.foldl turnP s).1 9 := by
  induction l with
  | nil => exact fun s K h _ _ => h.mono (by omega)
  | cons x l ih =>
    intro s K h hp hK
    rw [List.length_cons] at hK
    have p1 := put_turnI hp s.2 x
    exact ih (turnP s x) (K + 40) (live_sayP ha hb (live_turnI h (by omega) s.2 rfl (fun i hi => Nat.le_trans (hp i hi) (by omega)) x)) p1 (by omega)
theorem live_start (ha : U32 a) (hb : U32 b) : LiveP a b (sayP (beginP a b)) 0 := by
  refine live_sayP ha hb ⟨(safe_begin a b rfl rfl (fun _ => rfl) (fun _ => rfl)).less (fun _ _ s hs => by simp [beginP] at hs), ⟨.inl rfl, .inl rfl, fun _ => ⟨rfl, rfl⟩, fun h => absurd (show (1 : Int) = 4 from h) (by omega), fun h => absurd (show (1 : Int) = 3 from h) (by omega), fun h => absurd (show (2 : Int) = 4 from h) (by omega), fun s hs => by simp [beginP] at hs, fun s hs => by simp [beginP] at hs, rfl, rfl⟩, ?_, ?_, fun i hi => by simp [beginP]⟩
  · exact ⟨Int.le_refl 0, by show (0 : Int) ≤ 2; omega, Int.le_refl 0, by show 3 * (0 : Int) + 0 ≤ 0; omega, by simp [beginP, beginE], by simp [beginP, beginE]⟩
  · exact ⟨Int.le_refl 0, by show (0 : Int) ≤ 2; omega, Int.le_refl 0, by show 3 * (0 : Int) + 0 ≤ 0; omega, by simp [beginP, beginE], by simp [beginP, beginE]⟩
/-- A round that begins with nothing on its way. -/
theorem round_ends (h0 : d.y 0 = []) (h1 : d.y 1 = []) : (roundP d).e 0 = tickE (rdE (comeL (outE (d.e 0)).1 ((outE (d.e 1)).2.take 70))) ∧ (roundP d).e 1 = tickE (rdE (comeL (outE (d.e 1)).1 ((outE (d.e 0)).2.take 70))) ∧ (roundP d).y 0 = [] ∧ (roundP d).y 1 = [] ∧ (roundP d).p 0 = d.p 0 ∧ (roundP d).p 1 = d.p 1 ∧
    (roundP d).g 0 = d.g 0 ++ rdG (comeL (outE (d.e 0)).1 ((outE (d.e 1)).2.take 70)) ∧ (roundP d).g 1 = d.g 1 ++ rdG (comeL (outE (d.e 1)).1 ((outE (d.e 0)).2.take 70)) := by
  have h := toT_round d
  have e : toT d = ⟨d.e 0, d.e 1, [], [], d.p 0, d.p 1, d.g 0, d.g 1⟩ := by unfold toT; rw [h0, h1]
  rw [e] at h
  simp only [roundT, sayT, comeT, readT, tickT, List.nil_append] at h
  exact ⟨congrArg PairT.x0 h, congrArg PairT.x1 h, congrArg PairT.y0 h, congrArg PairT.y1 h, congrArg PairT.p0 h, congrArg PairT.p1 h, congrArg PairT.g0 h, congrArg PairT.g1 h⟩
theorem hsm_pos (h : LiveP a b d B) (h4 : (d.e 1).st ≠ 4) : 1 ≤ hsm (d.e 0) (d.e 1) ∧ hsm (d.e 0) (d.e 1) ≤ 6 := by
  have w1 := h.t0.w0
  have w2 := h.t0.w2
  have w3 := h.t1.w0
  have w4 := h.t1.w2
  have := h.hs.j1
  unfold hsm
  repeat' split
  all_goals omega
/-- The ends meet. -/
theorem live_meet (ha : U32 a) (hb : U32 b) (h : LiveP a b d 9) (h0 : d.y 0 = []) (h1 : d.y 1 = []) : ∀ k, k ≤ 6 → LiveP a b (roundsP k d) (9 + k) ∧ (roundsP k d).y 0 = [] ∧ (roundsP k d).y 1 = [] ∧ (roundsP k d).p 0 = d.p 0 ∧ (roundsP k d).p 1 = d.p 1 ∧ (((roundsP k d).e 1).st = 4 ∨ hsm ((roundsP k d).e 0) ((roundsP k d).e 1) ≤ 6 - k) := by
  intro k
  induction k with
  | zero =>
    intro _
    refine ⟨h.mono (by omega), h0, h1, rfl, rfl, ?_⟩
    by_cases h4 : (d.e 1).st = 4
    · exact .inl h4
    · exact .inr (by have := (hsm_pos h h4).2; exact this)
  | succ k ih =>
    intro hk
    obtain ⟨g1, g2, g3, g4, g5, g6⟩ := ih (by omega)
    rw [roundsP]
    generalize roundsP k d = x at *
    obtain ⟨e0, e1, e2, e3, e4, e5, -, -⟩ := round_ends g2 g3
    refine ⟨(live_round ha hb g1 (by omega) (by omega)).mono (by omega), e2, e3, e4.trans g4, e5.trans g5, ?_⟩
    obtain ⟨u0, n0, t0, r0, u1, n1, t1, r1, I0, I1, q1, q2, q3, q4⟩ := g1.ends
    have hr := hs_round ha hb I0 I1 q2 q1 (g1.hs.less (fun s hs => hs.elim) (fun s hs => hs.elim)) g1.t0 g1.t1 (by omega) (by omega) (g1.put 0 (by omega))
    dsimp only at hr
    rw [← e0, ← e1] at hr
    rcases hr with ⟨_, hr⟩ | hr
    · exact .inl hr
    · rcases g6 with g6 | g6
      · left
        have k1 := hs_round ha hb I0 I1 q2 q1 (g1.hs.less (fun s hs => hs.elim) (fun s hs => hs.elim)) g1.t0 g1.t1 (by omega) (by omega) (g1.put 0 (by omega))
        dsimp only at k1
        rw [← e0, ← e1] at k1
        have hz : hsm (x.e 0) (x.e 1) = 0 := by unfold hsm; rw [if_neg (by omega), if_neg (by omega)]
        rw [hz] at hr
        have l1 := live_round ha hb g1 (by omega) (by omega)
        by_cases h4 : ((roundP x).e 1).st = 4
        · exact h4
        · have := (hsm_pos l1 h4).1
          omega
      · right
        omega
theorem live_open (ha : U32 a) (hb : U32 b) (h : LiveP a b d 9) (h0 : d.y 0 = []) (h1 : d.y 1 = []) : ((roundsP 6 d).e 1).st = 4 := by
  obtain ⟨g1, g2, g3, g4, g5, g6⟩ := live_meet ha hb h h0 h1 6 (by omega)
  rcases g6 with g6 | g6
  · exact g6
  · by_cases h4 : ((roundsP 6 d).e 1).st = 4
    · exact h4
    · have := (hsm_pos g1 h4).1
      omega
/-- Two open ends between two rounds. -/
structure BothP (a b : Int) (d : PairD) (u0 n0 t0 r0 u1 n1 t1 r1 : Nat) : Prop where
  h0 : Half a b (d.p 0) (d.p 1) (d.g 0) u0 n0 t0 r0 (d.e 0)
  h1 : Half b a (d.p 1) (d.p 0) (d.g 1) u1 n1 t1 r1 (d.e 1)
  rt0 : r1 ≤ t0
  rt1 : r0 ≤ t1
  ur0 : u0 ≤ r1
  ur1 : u1 ≤ r0
  T0 : (d.e 0).tries ≤ 5 ∨ ((d.e 0).tries = 6 ∧ ((n0 = u0 ∧ u0 < (d.p 0).length ∧ (d.e 0).wait = 0) ∨ (d.e 1).due = true))
  T1 : (d.e 1).tries ≤ 5 ∨ ((d.e 1).tries = 6 ∧ ((n1 = u1 ∧ u1 < (d.p 1).length ∧ (d.e 1).wait = 0) ∨ (d.e 0).due = true))
  y0 : d.y 0 = []
  y1 : d.y 1 = []
theorem EndI.fin0 {iss iss' : Int} {P P' G : List UInt8} {u n t r t' : Nat} {e : EndD} (h : EndI iss iss' P P' G u n t r e) (hr : r ≤ t') (ht : t' ≤ P'.length) : e.fin = false := by
  have := h.fin
  cases hf : e.fin with
  | false => rfl
  | true => rw [if_pos hf] at this; omega
theorem both_begin (h : LiveP a b d 17) (h4 : (d.e 1).st = 4) (i0 : (d.e 0).inn = []) (i1 : (d.e 1).inn = []) (y0 : d.y 0 = []) (y1 : d.y 1 = []) : ∃ u0 n0 t0 r0 u1 n1 t1 r1, BothP a b d u0 n0 t0 r0 u1 n1 t1 r1 := by
  obtain ⟨u0, n0, t0, r0, u1, n1, t1, r1, I0, I1, q1, q2, q3, q4⟩ := h.ends
  have s0 := h.hs.s0
  have s1 := h.hs.s1
  have f0 := I0.fin0 q2 (I1.tle' s1)
  have f1 := I1.fin0 q1 (I0.tle' s0)
  have l0 := h.t0.out
  have l1 := h.t1.out
  have a1 := h.t0.q
  have a2 := h.t1.q
  have a3 := h.t0.w0
  have a4 := h.t1.w0
  rw [I0.out, List.length_drop] at l0
  rw [I1.out, List.length_drop] at l1
  exact ⟨u0, n0, t0, r0, u1, n1, t1, r1, ⟨I0, h.hs.j3 h4, s0, f0, i0, h.t0.w0, h.t0.w2, l0, h.put 0 (by omega), h.put 1 (by omega)⟩, ⟨I1, h4, s1, f1, i1, h.t1.w0, h.t1.w2, l1, h.put 1 (by omega), h.put 0 (by omega)⟩, q1, q2, q3, q4, .inl (by omega), .inl (by omega), y0, y1⟩
theorem take70 {iss iss' : Int} {P P' G : List UInt8} {u n t r : Nat} {e : EndD} (h : Half iss iss' P P' G u n t r e) : (outE e).2.take 70 = (outE e).2 := by
  obtain ⟨t2, l, a1, a2, a3, a4, a5, a6⟩ := live_out h.p h.I h.st h.shut h.len
  refine List.take_of_length_le ?_
  obtain ⟨q1, -, -⟩ := a5.le
  have hl := h.len
  have hun := h.I.un
  have hw : winE P u e.peer ≤ u + 64 := by unfold winE; omega
  rw [a6, List.length_append]
  split <;> simp <;> omega
theorem due_nat (x : Bool) : (x = true ↔ x.toNat = 1) := by cases x <;> simp
/-- One round of two open ends. -/
theorem both_round {u0 n0 t0 r0 u1 n1 t1 r1 : Nat} (h : BothP a b d u0 n0 t0 r0 u1 n1 t1 r1) : ∃ u0' n0' t0' r0' u1' n1' t1' r1', BothP a b (roundP d) u0' n0' t0' r0' u1' n1' t1' r1' ∧ (roundP d).p 0 = d.p 0 ∧ (roundP d).p 1 = d.p 1 ∧
    (r1' = (d.p 0).length ∨ r1 < (d.p 0).length ∧ mu u0' n0' r1' ((roundP d).e 0).wait ((roundP d).e 0).peer ((roundP d).e 1).due.toNat < mu u0 n0 r1 (d.e 0).wait (d.e 0).peer (d.e 1).due.toNat) ∧
    (r0' = (d.p 1).length ∨ r0 < (d.p 1).length ∧ mu u1' n1' r0' ((roundP d).e 1).wait ((roundP d).e 1).peer ((roundP d).e 0).due.toNat < mu u1 n1 r0 (d.e 1).wait (d.e 1).peer (d.e 0).due.toNat) := by
  obtain ⟨e0, e1, e2, e3, e4, e5, e6, e7⟩ := round_ends h.y0 h.y1
  rw [take70 h.h0] at e1 e7
  rw [take70 h.h1] at e0 e6
  obtain ⟨u0', n0', t0', r0', A, A1, A2, N0⟩ := half_round h.h0 h.h1 h.rt0 h.ur0 h.ur1 h.T0
  obtain ⟨u1', n1', t1', r1', C, C1, C2, N1⟩ := half_round h.h1 h.h0 h.rt1 h.ur1 h.ur0 h.T1
  rw [← e0, ← e6] at A
  rw [← e1, ← e7] at C
  rw [← e0] at N0
  rw [← e1] at N1
  generalize roundP d = x at *
  have L0 : max n0 (winE (d.p 0) u0 (d.e 0).peer) ≤ (d.p 0).length := by
    have k1 := h.h0.I.tle' h.h0.shut
    have k2 := h.h0.I.nt
    have k3 := h.h0.I.un
    unfold winE
    omega
  have L1 : max n1 (winE (d.p 1) u1 (d.e 1).peer) ≤ (d.p 1).length := by
    have k1 := h.h1.I.tle' h.h1.shut
    have k2 := h.h1.I.nt
    have k3 := h.h1.I.un
    unfold winE
    omega
  have R0 : r0 ≤ (d.p 1).length := by have := h.h0.I.fin; rw [h.h0.fin] at this; simpa using this
  have R1 : r1 ≤ (d.p 0).length := by have := h.h1.I.fin; rw [h.h1.fin] at this; simpa using this
  have R0' : r0' ≤ (d.p 1).length := by have := A.I.fin; rw [A.fin] at this; simpa using this
  have R1' : r1' ≤ (d.p 0).length := by have := C.I.fin; rw [C.fin] at this; simpa using this
  have len0 := h.h0.len
  have len1 := h.h1.len
  have ur0 := h.ur0
  have ur1 := h.ur1
  have hm0 := N0.mono
  have hm1 := N1.mono
  have hsub0 : max n0 (winE (d.p 0) u0 (d.e 0).peer) - r1 ≤ 64 := by omega
  have hsub1 : max n1 (winE (d.p 1) u1 (d.e 1).peer) - r0 ≤ 64 := by omega
  have near1 := N1.near hsub0
  have near0 := N0.near hsub1
  have d0 : x.e 1 = x.e 1 → ((x.e 1).due.toNat = 1 ↔ n0 < max n0 (winE (d.p 0) u0 (d.e 0).peer)) := fun _ => by rw [← due_nat, N1.due, decide_eq_true_iff]
  have d1 : x.e 0 = x.e 0 → ((x.e 0).due.toNat = 1 ↔ n1 < max n1 (winE (d.p 1) u1 (d.e 1).peer)) := fun _ => by rw [← due_nat, N0.due, decide_eq_true_iff]
  have d0 := d0 rfl
  have d1 := d1 rfl
  have b0 : (x.e 1).due.toNat ≤ 1 := by cases (x.e 1).due <;> simp
  have b1 : (x.e 0).due.toNat ≤ 1 := by cases (x.e 0).due <;> simp
  refine ⟨u0', n0', t0', r0', u1', n1', t1', r1', ⟨by rw [e4, e5]; exact A, by rw [e4, e5]; exact C, ?_, ?_, ?_, ?_, ?_, ?_, e2, e3⟩, e4, e5, ?_, ?_⟩
  · have := h.rt0; omega
  · have := h.rt1; omega
  · have hu : u0' = u0 ∨ u0' = r1 := by
      by_cases c : n1 < max n1 (winE (d.p 1) u1 (d.e 1).peer) ∨ (d.e 1).due = true
      · exact .inr (N0.yes c).1
      · exact .inl (N0.no c).1
    omega
  · have hu : u1' = u1 ∨ u1' = r0 := by
      by_cases c : n0 < max n0 (winE (d.p 0) u0 (d.e 0).peer) ∨ (d.e 0).due = true
      · exact .inr (N1.yes c).1
      · exact .inl (N1.no c).1
    omega
  · rw [e4, due_nat]
    exact tries_step (L := (d.p 0).length) (d := (d.e 1).due.toNat) N0.yes N0.no (fun c => .inr ((due_nat _).2 c)) (fun c => d0.2 c) rfl L0 h.h0.I.un (by rw [← due_nat]; exact h.T0)
  · rw [e5, due_nat]
    exact tries_step (L := (d.p 1).length) (d := (d.e 0).due.toNat) N1.yes N1.no (fun c => .inr ((due_nat _).2 c)) (fun c => d1.2 c) rfl L1 h.h1.I.un (by rw [← due_nat]; exact h.T1)
  · by_cases hL : r1 = (d.p 0).length
    · exact .inl (by omega)
    · rcases mu_step (L := (d.p 0).length) (d := (d.e 1).due.toNat) (d2 := (x.e 1).due.toNat) N0.yes N0.no (fun c => .inr ((due_nat _).2 c)) (fun c => d0.2 c) (fun c => by omega) N1.far N1.near rfl L0 h.ur0 h.h0.I.un (by omega) len0 h.h0.w0 h.h0.w2 with k | k
      · exact .inl k
      · exact .inr ⟨by omega, k⟩
  · by_cases hL : r0 = (d.p 1).length
    · exact .inl (by omega)
    · rcases mu_step (L := (d.p 1).length) (d := (d.e 0).due.toNat) (d2 := (x.e 0).due.toNat) N1.yes N1.no (fun c => .inr ((due_nat _).2 c)) (fun c => d1.2 c) (fun c => by omega) N0.far N0.near rfl L1 h.ur1 h.h1.I.un (by omega) len1 h.h1.w0 h.h1.w2 with k | k
      · exact .inl k
      · exact .inr ⟨by omega, k⟩
theorem both_rounds {u0 n0 t0 r0 u1 n1 t1 r1 : Nat} (h : BothP a b d u0 n0 t0 r0 u1 n1 t1 r1) (k : Nat) : ∃ u0' n0' t0' r0' u1' n1' t1' r1', BothP a b (roundsP k d) u0' n0' t0' r0' u1' n1' t1' r1' ∧ (roundsP k d).p 0 = d.p 0 ∧ (roundsP k d).p 1 = d.p 1 ∧
    (r1' = (d.p 0).length ∨ mu u0' n0' r1' ((roundsP k d).e 0).wait ((roundsP k d).e 0).peer ((roundsP k d).e 1).due.toNat ≤ 13 - (k : Int)) ∧
    (r0' = (d.p 1).length ∨ mu u1' n1' r0' ((roundsP k d).e 1).wait ((roundsP k d).e 1).peer ((roundsP k d).e 0).due.toNat ≤ 13 - (k : Int)) := by
  induction k with
  | zero => exact ⟨u0, n0, t0, r0, u1, n1, t1, r1, h, rfl, rfl, .inr (by have := mu_le u0 n0 r1 (d.e 0).wait (d.e 0).peer (d.e 1).due.toNat h.h0.w0; show mu _ _ _ (d.e 0).wait (d.e 0).peer (d.e 1).due.toNat ≤ _; omega), .inr (by have := mu_le u1 n1 r0 (d.e 1).wait (d.e 1).peer (d.e 0).due.toNat h.h1.w0; show mu _ _ _ (d.e 1).wait (d.e 1).peer (d.e 0).due.toNat ≤ _; omega)⟩
  | succ k ih =>
    obtain ⟨v0, m0, s0, q0, v1, m1, s1, q1, B1, B2, B3, B4, B5⟩ := ih
    rw [roundsP]
    generalize roundsP k d = x at *
    obtain ⟨v0', m0', s0', q0', v1', m1', s1', q1', C1, C2, C3, C4, C5⟩ := both_round B1
    rw [B2] at C4
    rw [B3] at C5
    refine ⟨v0', m0', s0', q0', v1', m1', s1', q1', C1, C2.trans B2, C3.trans B3, ?_, ?_⟩
    · rcases C4 with C4 | ⟨C4, C6⟩
      · exact .inl C4
      · rcases B4 with B4 | B4
        · omega
        · exact .inr (by omega)
    · rcases C5 with C5 | ⟨C5, C6⟩
      · exact .inl C5
      · rcases B5 with B5 | B5
        · omega
        · exact .inr (by omega)
theorem both_end {u0 n0 t0 r0 u1 n1 t1 r1 : Nat} (h : BothP a b d u0 n0 t0 r0 u1 n1 t1 r1) {k : Nat} (hk : 13 ≤ k) : ((roundsP k d).e 0).st = 4 ∧ ((roundsP k d).e 1).st = 4 ∧ (roundsP k d).p 0 = (roundsP k d).g 1 ∧ (roundsP k d).p 1 = (roundsP k d).g 0 := by
  obtain ⟨v0, m0, s0, q0, v1, m1, s1, q1, B1, B2, B3, B4, B5⟩ := both_rounds h k
  have k0 := mu_pos v0 m0 q1 ((roundsP k d).e 0).wait ((roundsP k d).e 0).peer ((roundsP k d).e 1).due.toNat B1.h0.w2
  have k1 := mu_pos v1 m1 q0 ((roundsP k d).e 1).wait ((roundsP k d).e 1).peer ((roundsP k d).e 0).due.toNat B1.h1.w2
  have e1 : q1 = (d.p 0).length := by omega
  have e0 : q0 = (d.p 1).length := by omega
  have g0 := B1.h0.I.got
  have g1 := B1.h1.I.got
  rw [B1.h0.inn, List.append_nil, e0, B3, List.take_length] at g0
  rw [B1.h1.inn, List.append_nil, e1, B2, List.take_length] at g1
  exact ⟨B1.h0.st, B1.h1.st, by rw [B2, g1], by rw [B3, g0]⟩
theorem tick_inn (e : EndD) : (tickE e).inn = e.inn := by
  unfold tickE
  split
  · rfl
  split
  · rfl
  split <;> rfl
theorem rd_inn {e : EndD} (h4 : e.st = 4) (hf : e.fin = false) (hl : e.inn.length ≤ 64) : (rdE e).inn = [] := by
  by_cases hi : e.inn = []
  · rw [(rd_none (.inr (.inr h4)) hi hf).1]; exact hi
  · have he : readErr e 64 = none := by
      unfold readErr
      rw [if_neg (by omega), if_neg (by rintro ⟨_, h2, _⟩; exact hi h2)]
    unfold rdE
    rw [he]
    show e.inn.drop (readN e 64) = []
    exact List.drop_of_length_le (by unfold readN; omega)
theorem roundsP_add (m n : Nat) (d : PairD) : roundsP (m + n) d = roundsP m (roundsP n d) := by
  induction m with
  | zero => rw [Nat.zero_add]; rfl
  | succ m ih => rw [Nat.succ_add, roundsP, roundsP, ih]
theorem round_arrives (ha : U32 a) (hb : U32 b) (h : LiveP a b d 9) (h0 : d.y 0 = []) (h1 : d.y 1 = []) : ((roundsP 40 d).e 0).st = 4 ∧ ((roundsP 40 d).e 1).st = 4 ∧ (roundsP 40 d).p 0 = (roundsP 40 d).g 1 ∧ (roundsP 40 d).p 1 = (roundsP 40 d).g 0 := by
  have o4 := live_open ha hb h h0 h1
  obtain ⟨g1, g2, g3, g4, g5, -⟩ := live_meet ha hb h h0 h1 6 (by omega)
  have hr : roundsP 40 d = roundsP 33 (roundP (roundsP 6 d)) := by
    rw [show 40 = 33 + 7 from rfl, roundsP_add]
    rfl
  rw [hr]
  generalize roundsP 6 d = x at *
  have l1 := live_round ha hb g1 (by omega) (by omega)
  obtain ⟨e0, e1, e2, e3, e4, e5, e6, e7⟩ := round_ends g2 g3
  have hT0 : Tame (comeL (outE (x.e 0)).1 ((outE (x.e 1)).2.take 70)) (9 + (6 : Nat)) := comeL_tame (by omega) _ (tame_same g1.t0 (out_sameE _))
  have hT1 : Tame (comeL (outE (x.e 1)).1 ((outE (x.e 0)).2.take 70)) (9 + (6 : Nat)) := comeL_tame (by omega) _ (tame_same g1.t1 (out_sameE _))
  have o0 := g1.hs.j3 o4
  have c0 : (comeL (outE (x.e 0)).1 ((outE (x.e 1)).2.take 70)).st = 4 := comeL_open _ ((out_sameE _).st.trans o0) (fun s hm => by rw [out_open_fl o4 g1.hs.s1 s (List.mem_of_mem_take hm)]; omega)
  have c1 : (comeL (outE (x.e 1)).1 ((outE (x.e 0)).2.take 70)).st = 4 := comeL_open _ ((out_sameE _).st.trans o4) (fun s hm => by rw [out_open_fl o0 g1.hs.s0 s (List.mem_of_mem_take hm)]; omega)
  have s4 : ((roundP x).e 1).st = 4 := by rw [e1, (tick_case (tame_rd hT1) (by omega)).1, (rd_keeps _).1, c1]
  obtain ⟨u0, n0, t0, r0, u1, n1, t1, r1, I0, I1, q1, q2, q3, q4⟩ := l1.ends
  have f0 : ((roundP x).e 0).fin = false := I0.fin0 q2 (I1.tle' l1.hs.s1)
  have f1 : ((roundP x).e 1).fin = false := I1.fin0 q1 (I0.tle' l1.hs.s0)
  rw [e0, (tick_case (tame_rd hT0) (by omega)).2.2.2.2.2.2.2.1, (rd_keeps _).2.2.2.2.2.2.2.1] at f0
  rw [e1, (tick_case (tame_rd hT1) (by omega)).2.2.2.2.2.2.2.1, (rd_keeps _).2.2.2.2.2.2.2.1] at f1
  have i0 : ((roundP x).e 0).inn = [] := by rw [e0, tick_inn]; exact rd_inn c0 f0 hT0.inn
  have i1 : ((roundP x).e 1).inn = [] := by rw [e1, tick_inn]; exact rd_inn c1 f1 hT1.inn
  obtain ⟨u0, n0, t0, r0, u1, n1, t1, r1, hb2⟩ := both_begin (l1.mono (by omega)) s4 i0 i1 e2 e3
  exact both_end hb2 (k := 33) (by omega)
/-- Whatever turns there were. -/
theorem arrives (ha : U32 a) (hb : U32 b) (ts : List TurnD) (y : Nat → List SegD) (h0 : y 0 = []) (h1 : y 1 = []) : let d := roundsP 40 { (turnsP (sayP (beginP a b)) ts).1 with y := y }; (d.e 0).st = 4 ∧ (d.e 1).st = 4 ∧ d.p 0 = d.g 1 ∧ d.p 1 = d.g 0 := by
  have hl : (ts.take 40).length ≤ 40 := by rw [List.length_take]; omega
  have h := live_turns ha hb (ts.take 40) (sayP (beginP a b), 0) 0 (live_start ha hb) (fun i hi => Nat.le_refl 0) (by omega)
  exact round_arrives ha hb (live_ways h (y := y) (fun i hi s hs => by
    rcases lt2 hi with rfl | rfl
    · rw [h0] at hs; simp at hs
    · rw [h1] at hs; simp at hs)) h0 h1
end
end Go.Proofs.Ytkfpmljlgpobjaa
