/- What turns and rounds keep of how far two ends have met. Plain laws. -/
import Derived.Test.YtkfpmljlgpobjaaLiveM
namespace Go.Proofs.Ytkfpmljlgpobjaa
open Go.RowKit
set_option linter.unusedVariables false

/-- An end that has not waited long. -/
structure Tame (e : EndD) (B : Int) : Prop where
  w0 : 0 ≤ e.wait
  w2 : e.wait ≤ 2
  t0 : 0 ≤ e.tries
  q : 3 * e.tries + e.wait ≤ B
  out : e.out.length ≤ 64
  inn : e.inn.length ≤ 64
theorem Tame.mono {e : EndD} {B B' : Int} (h : Tame e B) (hb : B ≤ B') : Tame e B' := ⟨h.w0, h.w2, h.t0, Int.le_trans h.q hb, h.out, h.inn⟩
theorem tame_take {e : EndD} {B : Int} (h : Tame e B) (q f : Int) (ds : List UInt8) : Tame (takeE e q f ds) B := by
  unfold takeE
  split
  · exact h
  split
  · exact ⟨h.w0, h.w2, h.t0, h.q, h.out, h.inn⟩
  · rename_i hr
    refine ⟨h.w0, h.w2, h.t0, h.q, h.out, ?_⟩
    unfold refuseB at hr
    simp only [Bool.or_eq_true, decide_eq_true_eq, not_or] at hr
    show (e.inn ++ ds).length ≤ 64
    rw [List.length_append]
    omega
theorem tame_answer {e : EndD} {B : Int} (h : Tame e B) (hB : 0 ≤ B) (a wd : Int) : Tame (answerE e a wd) B := by
  have hw := h.w0
  have hw2 := h.w2
  have ht := h.t0
  have hq := h.q
  unfold answerE
  split
  · exact h
  split
  · exact ⟨h.w0, h.w2, Int.le_refl 0, by show 3 * (0 : Int) + e.wait ≤ B; omega, h.out, h.inn⟩
  · refine ⟨Int.le_refl 0, by show (0 : Int) ≤ 2; omega, Int.le_refl 0, by show 3 * (0 : Int) + 0 ≤ B; omega, ?_, h.inn⟩
    show (e.out.drop _).length ≤ 64
    rw [List.length_drop]
    have := h.out
    omega
theorem tame_come {e : EndD} {B : Int} (h : Tame e B) (hB : 0 ≤ B) (s : SegD) : Tame (comeS e s) B := by
  have z : Tame { e with wait := 0, tries := 0 } B := ⟨Int.le_refl 0, by show (0 : Int) ≤ 2; omega, Int.le_refl 0, by show 3 * (0 : Int) + 0 ≤ B; omega, h.out, h.inn⟩
  unfold comeS comeE
  split
  · exact h
  split
  · split
    · exact h
    · exact ⟨h.w0, h.w2, h.t0, h.q, h.out, h.inn⟩
  split
  · split
    · exact ⟨h.w0, h.w2, h.t0, h.q, h.out, h.inn⟩
    · exact h
  split
  · split
    · exact ⟨z.w0, z.w2, z.t0, z.q, h.out, h.inn⟩
    · exact h
  split
  · split
    · split
      · exact ⟨h.w0, h.w2, h.t0, h.q, h.out, h.inn⟩
      · exact h
    · split
      · exact tame_take (e := heardE e s.wd) ⟨z.w0, z.w2, z.t0, z.q, h.out, h.inn⟩ _ _ _
      · exact h
  split
  · exact tame_take h _ _ _
  · exact tame_take (tame_answer h hB _ _) _ _ _
theorem loop_same (K : Nat) : ∀ (e : EndD), SameE e (outLoop K e).1 ∧ ((3 ≤ e.st) → ∀ s ∈ (outLoop K e).2, s.fl = 2) := by
  induction K with
  | zero => exact fun e => ⟨SameE.refl e, fun _ s hs => by simp [outLoop] at hs⟩
  | succ K ih =>
    intro e
    rw [outLoop]
    split
    · exact ⟨SameE.refl e, fun _ s hs => by simp at hs⟩
    · obtain ⟨h1, h2⟩ := ih (sayE e 0 (outN e))
      refine ⟨(SameE.say e _ _).trans h1, fun h3 s hs => ?_⟩
      dsimp only at hs
      rcases List.mem_cons.1 hs with rfl | hs
      · show flE e 0 = 2
        unfold flE
        rw [if_pos h3]
        rfl
      · exact h2 h3 s hs
theorem out_sameE (e : EndD) : SameE e (outE e).1 := by
  unfold outE
  split
  · exact SameE.say e _ _
  split
  · unfold outDue outFin
    have h1 := (loop_same 64 e).1
    split <;> split
    · exact (h1.trans (SameE.say _ _ _)).trans (SameE.say _ _ _)
    · exact h1.trans (SameE.say _ _ _)
    · exact h1.trans (SameE.say _ _ _)
    · exact h1
  · exact SameE.refl e
theorem out_open_fl {e : EndD} (h4 : e.st = 4) (hs : e.shut = false) : ∀ s ∈ (outE e).2, s.fl = 2 := by
  have h1 := (loop_same 64 e).1
  have h2 := (loop_same 64 e).2 (by omega)
  unfold outE
  rw [if_neg (by omega), if_pos h4]
  have hf : outFin (outLoop 64 e) = outLoop 64 e := by unfold outFin; rw [if_neg (by rw [h1.shut, hs]; simp)]
  rw [hf]
  unfold outDue
  split
  · intro s hm
    rcases List.mem_append.1 hm with hm | hm
    · exact h2 s hm
    · obtain rfl := List.mem_singleton.1 hm
      show flE _ 0 = 2
      unfold flE
      rw [if_pos (by rw [h1.st]; omega)]
      rfl
  · exact h2
theorem tame_same {e e' : EndD} {B : Int} (h : Tame e B) (k : SameE e e') : Tame e' B :=
  ⟨by rw [k.wait]; exact h.w0, by rw [k.wait]; exact h.w2, by rw [k.tries]; exact h.t0, by rw [k.tries, k.wait]; exact h.q, by rw [k.out]; exact h.out, by rw [k.inn]; exact h.inn⟩
theorem tame_tick {e : EndD} {B : Int} (h : Tame e B) : Tame (tickE e) (B + 1) := by
  have hw := h.w0
  have hw2 := h.w2
  have ht := h.t0
  have hq := h.q
  unfold tickE
  split
  · exact h.mono (by omega)
  split
  · exact ⟨by show 0 ≤ e.wait + 1; omega, by show e.wait + 1 ≤ 2; omega, ht, by show 3 * e.tries + (e.wait + 1) ≤ B + 1; omega, h.out, h.inn⟩
  split
  · exact ⟨Int.le_refl 0, by show (0 : Int) ≤ 2; omega, by show 0 ≤ e.tries + 1; omega, by show 3 * (e.tries + 1) + 0 ≤ B + 1; omega, h.out, h.inn⟩
  · exact ⟨Int.le_refl 0, by show (0 : Int) ≤ 2; omega, by show 0 ≤ e.tries + 1; omega, by show 3 * (e.tries + 1) + 0 ≤ B + 1; omega, h.out, h.inn⟩
/-- A tick of an end that is not at its end: what becomes of it. -/
theorem tick_case {e : EndD} {B : Int} (h : Tame e B) (hB : B ≤ 19) : (tickE e).st = e.st ∧ (tickE e).una = e.una ∧ (tickE e).first = e.first ∧ (tickE e).top = e.top ∧ (tickE e).shut = e.shut ∧ (tickE e).due = e.due ∧ (tickE e).inn = e.inn ∧ (tickE e).fin = e.fin ∧ ((tickE e).nxt = e.nxt ∨ (tickE e).nxt = e.una) ∧
    (e.una = e.nxt → tickE e = e) ∧ (e.una ≠ e.nxt → begunB e = true → (e.wait + 1 < 3 ∧ (tickE e).wait = e.wait + 1 ∧ (tickE e).nxt = e.nxt) ∨ (¬ e.wait + 1 < 3 ∧ (tickE e).nxt = (tickE e).una)) ∧ (begunB e = false → tickE e = e) := by
  have hw := h.w0
  have hw2 := h.w2
  have hq := h.q
  unfold tickE
  split
  · rename_i hc
    refine ⟨rfl, rfl, rfl, rfl, rfl, rfl, rfl, rfl, .inl rfl, fun _ => rfl, fun h1 h2 => ?_, fun _ => rfl⟩
    rcases hc with hc | hc
    · rw [h2] at hc; exact absurd hc (by decide)
    · exact absurd hc h1
  rename_i hc
  split
  · rename_i hw3
    exact ⟨rfl, rfl, rfl, rfl, rfl, rfl, rfl, rfl, .inl rfl, fun h1 => absurd (.inr h1) hc, fun _ _ => .inl ⟨hw3, rfl, rfl⟩, fun h1 => absurd (.inl h1) hc⟩
  rename_i hw3
  split
  · exfalso; omega
  · exact ⟨rfl, rfl, rfl, rfl, rfl, rfl, rfl, rfl, .inr rfl, fun h1 => absurd (.inr h1) hc, fun _ _ => .inr ⟨hw3, rfl⟩, fun h1 => absurd (.inl h1) hc⟩
theorem tame_write {e : EndD} {B : Int} (h : Tame e B) (ds : List UInt8) : Tame (writeE e ds).1 B := by
  unfold writeE
  split
  · exact h
  split
  · exact h
  split
  · exact h
  · refine ⟨h.w0, h.w2, h.t0, h.q, ?_, h.inn⟩
    show (e.out ++ ds.take (wrN e ds.length)).length ≤ 64
    have := h.out
    rw [List.length_append, List.length_take]
    unfold wrN
    omega
theorem tame_read {e : EndD} {B : Int} (h : Tame e B) (k : Nat) : Tame (readTo e k) B := by
  refine ⟨h.w0, h.w2, h.t0, h.q, h.out, ?_⟩
  show (e.inn.drop _).length ≤ 64
  rw [List.length_drop]
  have := h.inn
  omega

/-- How far two ends have met, and what may be on its way. -/
structure Hs (x0 x1 : EndD) (M0 M1 : SegD → Prop) : Prop where
  j0 : x0.st = 2 ∨ x0.st = 4
  j1 : x1.st = 1 ∨ x1.st = 3 ∨ x1.st = 4
  j2 : x1.st = 1 → x0.st = 2 ∧ x1.nxt = x1.una
  j3 : x1.st = 4 → x0.st = 4
  j4 : x1.st = 3 → x0.st = 2 → x0.top = x0.first
  j5 : x0.st = 4 → x1.st = 3 → x1.top = x1.first
  m1 : ∀ s, M1 s → (s.fl = 1 ∧ (x0.st = 2 → x0.top = x0.first)) ∨ (s.fl = 2 ∧ x0.st = 4)
  m0 : ∀ s, M0 s → (s.fl = 3 ∧ x1.st ≠ 1 ∧ (x1.st = 3 → x1.top = x1.first)) ∨ (s.fl = 2 ∧ x1.st = 4)
  s0 : x0.shut = false
  s1 : x1.shut = false
section
variable {x0 x1 : EndD} {M0 M1 : SegD → Prop}
theorem Hs.less {N0 N1 : SegD → Prop} (h : Hs x0 x1 M0 M1) (h0 : ∀ s, N0 s → M0 s) (h1 : ∀ s, N1 s → M1 s) : Hs x0 x1 N0 N1 :=
  ⟨h.j0, h.j1, h.j2, h.j3, h.j4, h.j5, fun s hs => h.m1 s (h1 s hs), fun s hs => h.m0 s (h0 s hs), h.s0, h.s1⟩
/-- An end whose state, top, first place and so on are the same. -/
theorem Hs.same0 {y : EndD} (h : Hs x0 x1 M0 M1) (e1 : y.st = x0.st) (e2 : x0.st = 2 → x0.top = x0.first → y.top = y.first) (e4 : y.shut = x0.shut) : Hs y x1 M0 M1 :=
  ⟨by rw [e1]; exact h.j0, h.j1, by rw [e1]; exact h.j2, by rw [e1]; exact h.j3, fun a b => e2 (e1 ▸ b) (h.j4 a (e1 ▸ b)), by rw [e1]; exact h.j5,
    fun s hs => by rcases h.m1 s hs with ⟨h1, h2⟩ | ⟨h1, h2⟩; exact .inl ⟨h1, fun b => e2 (e1 ▸ b) (h2 (e1 ▸ b))⟩; exact .inr ⟨h1, e1.trans h2⟩, h.m0, e4.trans h.s0, h.s1⟩
theorem Hs.same1 {y : EndD} (h : Hs x0 x1 M0 M1) (e1 : y.st = x1.st) (e2 : x1.st = 3 → x1.top = x1.first → y.top = y.first) (e4 : y.shut = x1.shut) (e5 : x1.st = 1 → x1.nxt = x1.una → y.nxt = y.una) : Hs x0 y M0 M1 :=
  ⟨h.j0, by rw [e1]; exact h.j1, fun a => ⟨(h.j2 (e1 ▸ a)).1, e5 (e1 ▸ a) (h.j2 (e1 ▸ a)).2⟩, by rw [e1]; exact h.j3, by rw [e1]; exact h.j4, fun a b => e2 (e1 ▸ b) (h.j5 a (e1 ▸ b)), h.m1,
    fun s hs => by rcases h.m0 s hs with ⟨h1, h2, h3⟩ | ⟨h1, h2⟩; exact .inl ⟨h1, by rw [e1]; exact h2, fun b => e2 (e1 ▸ b) (h3 (e1 ▸ b))⟩; exact .inr ⟨h1, e1.trans h2⟩, h.s0, e4.trans h.s1⟩
theorem take_keeps (e : EndD) (q f : Int) (ds : List UInt8) : (takeE e q f ds).st = e.st ∧ (takeE e q f ds).shut = e.shut ∧ (takeE e q f ds).top = e.top ∧ (takeE e q f ds).first = e.first ∧ (takeE e q f ds).nxt = e.nxt ∧ (takeE e q f ds).una = e.una := by
  unfold takeE
  split
  · exact ⟨rfl, rfl, rfl, rfl, rfl, rfl⟩
  split <;> exact ⟨rfl, rfl, rfl, rfl, rfl, rfl⟩
theorem answer_keeps (e : EndD) (a wd : Int) : (answerE e a wd).st = e.st ∧ (answerE e a wd).shut = e.shut := by
  unfold answerE
  split
  · exact ⟨rfl, rfl⟩
  split <;> exact ⟨rfl, rfl⟩
theorem come_open {e : EndD} (h4 : e.st = 4) {s : SegD} (h8 : s.fl ≠ 8) : (comeS e s).st = 4 ∧ (comeS e s).shut = e.shut := by
  unfold comeS comeE
  rw [if_neg (by omega), if_neg h8, if_neg (by omega), if_neg (by omega), if_neg (by omega)]
  split
  · obtain ⟨h1, h2, -⟩ := take_keeps e s.seq s.fl s.data
    exact ⟨h1.trans h4, h2⟩
  · obtain ⟨h1, h2, -⟩ := take_keeps (answerE e s.ack s.wd) s.seq s.fl s.data
    obtain ⟨h3, h5⟩ := answer_keeps e s.ack s.wd
    exact ⟨h1.trans (h3.trans h4), h2.trans h5⟩
theorem Hs.come0 (h : Hs x0 x1 M0 M1) {s : SegD} (hs : M0 s) : Hs (comeS x0 s) x1 M0 M1 := by
  rcases h.j0 with h2 | h4
  · rcases h.m0 s hs with ⟨f3, n1, t1⟩ | ⟨f2, s4⟩
    · unfold comeS comeE
      rw [if_neg (by omega), if_neg (by omega), if_neg (by omega), if_pos h2]
      split
      · refine ⟨.inr rfl, h.j1, fun a => absurd a n1, fun _ => rfl, fun _ b => absurd b (by show ¬ (4 : Int) = 2; omega), fun _ b => t1 b, fun s' hs' => ?_, h.m0, h.s0, h.s1⟩
        rcases h.m1 s' hs' with ⟨g1, g2⟩ | ⟨g1, g2⟩
        · exact .inl ⟨g1, fun b => absurd b (by show ¬ (4 : Int) = 2; omega)⟩
        · exact .inr ⟨g1, rfl⟩
      · exact h
    · have := h.j3 s4; omega
  · have h8 : s.fl ≠ 8 := by rcases h.m0 s hs with ⟨f3, -⟩ | ⟨f2, -⟩ <;> omega
    obtain ⟨g1, g2⟩ := come_open h4 h8
    exact h.same0 (g1.trans h4.symm) (fun a => by omega) g2
theorem Hs.come1 (h : Hs x0 x1 M0 M1) {s : SegD} (hs : M1 s) : Hs x0 (comeS x1 s) M0 M1 := by
  rcases h.j1 with h1 | h3 | h4
  · obtain ⟨h2, hn⟩ := h.j2 h1
    rcases h.m1 s hs with ⟨f1, t0⟩ | ⟨f2, s4⟩
    · unfold comeS comeE
      rw [if_neg (by omega), if_neg (by omega), if_pos h1, if_pos f1]
      refine ⟨h.j0, .inr (.inl rfl), fun a => absurd a (by show ¬ (3 : Int) = 1; omega), fun a => absurd a (by show ¬ (3 : Int) = 4; omega), fun _ b => t0 b, fun a _ => by omega, h.m1, fun s' hs' => ?_, h.s0, h.s1⟩
      rcases h.m0 s' hs' with ⟨g1, g2, -⟩ | ⟨g1, g2⟩
      · exact absurd h1 g2
      · omega
    · omega
  · rcases h.m1 s hs with ⟨f1, t0⟩ | ⟨f2, s4⟩
    · unfold comeS comeE
      rw [if_neg (by omega), if_neg (by omega), if_neg (by omega), if_neg (by omega), if_pos h3, if_pos (by omega)]
      split
      · exact h.same1 rfl (fun _ a => a) rfl (fun a => by omega)
      · exact h
    · unfold comeS comeE
      rw [if_neg (by omega), if_neg (by omega), if_neg (by omega), if_neg (by omega), if_pos h3, if_neg (by omega)]
      split
      · obtain ⟨g1, g2, -⟩ := take_keeps (heardE x1 s.wd) s.seq s.fl s.data
        refine ⟨h.j0, .inr (.inr g1), fun a => absurd (g1.symm.trans a) (by show ¬ (4 : Int) = 1; omega), fun _ => s4, fun a => absurd (g1.symm.trans a) (by show ¬ (4 : Int) = 3; omega), fun _ a => absurd (g1.symm.trans a) (by show ¬ (4 : Int) = 3; omega), h.m1, fun s' hs' => ?_, h.s0, g2.trans h.s1⟩
        rcases h.m0 s' hs' with ⟨k1, k2, -⟩ | ⟨k1, k2⟩
        · exact .inl ⟨k1, by rw [g1]; show (4 : Int) ≠ 1; omega, fun a => absurd (g1.symm.trans a) (by show ¬ (4 : Int) = 3; omega)⟩
        · omega
      · exact h
  · have h8 : s.fl ≠ 8 := by rcases h.m1 s hs with ⟨f3, -⟩ | ⟨f2, -⟩ <;> omega
    obtain ⟨g1, g2⟩ := come_open h4 h8
    exact h.same1 (g1.trans h4.symm) (fun a => by omega) g2 (fun a => by omega)
/-- A first segment that is said. -/
theorem syn_top {iss iss' : Int} {P P' G : List UInt8} {u n t r : Nat} {e : EndD} (h : EndI iss iss' P P' G u n t r e) (hi : U32 iss) (hst : e.st = 2 ∨ e.st = 3) (hn : e.nxt = e.una) : (sayE e 1 0).top = (sayE e 1 0).first ∧ (sayE e 1 0).nxt = sq iss 1 ∧ (sayE e 1 0).first = sq iss 1 := by
  obtain ⟨p1, p2, p3, p4, p5⟩ := h.pre (.inr hst)
  have hun := h.un
  have hnt := h.nt
  have hu : u = 0 := by omega
  have hx : nxtE e 1 0 = sq iss 1 := by
    unfold nxtE
    rw [span_1, hn, p3]
    rfl
  have hf : e.first = sq iss 1 := by
    rw [h.first, hu]
    unfold sq
    simp
  refine ⟨?_, hx, hf⟩
  show (if beforeB e.top (nxtE e 1 0) = true then nxtE e 1 0 else e.top) = e.first
  rw [hx, hf]
  have h0 : iss = sq iss 0 := by
    obtain ⟨i1, i2⟩ := hi
    unfold sq
    omega
  rcases p5 with p5 | p5
  · have : beforeB e.top (sq iss 1) = true := by
      rw [p5]
      have := before_sq (S := iss) (a := 0) (b := 1) (by omega) (by omega)
      rw [← h0] at this
      rw [this]
      rfl
    rw [if_pos this]
  · split
    · rfl
    · exact p5
theorem Hs.out0 (h : Hs x0 x1 M0 M1) {iss iss' : Int} {P P' G : List UInt8} {u n t r : Nat} (hI : EndI iss iss' P P' G u n t r x0) (hi : U32 iss) : Hs (outE x0).1 x1 M0 (fun s => M1 s ∨ s ∈ (outE x0).2) := by
  rcases h.j0 with h2 | h4
  · unfold outE
    by_cases hn : x0.nxt = x0.una
    · rw [if_pos ⟨.inl h2, hn⟩]
      obtain ⟨k1, -, -⟩ := syn_top hI hi (.inl h2) hn
      have hs := h.same0 (y := sayE x0 1 0) rfl (fun _ _ => k1) rfl
      refine ⟨hs.j0, hs.j1, hs.j2, hs.j3, hs.j4, hs.j5, fun s hm => ?_, hs.m0, hs.s0, hs.s1⟩
      rcases hm with hm | hm
      · exact hs.m1 s hm
      · obtain rfl := List.mem_singleton.1 hm
        refine .inl ⟨?_, fun _ => k1⟩
        show flE x0 1 = 1
        unfold flE
        rw [if_neg (by omega)]
    · rw [if_neg (fun a => hn a.2), if_neg (by omega)]
      exact h.less (fun _ a => a) (fun s a => a.elim id (fun b => by simp at b))
  · have hs := h.same0 (y := (outE x0).1) (out_sameE x0).st (fun a => by omega) (out_sameE x0).shut
    refine ⟨hs.j0, hs.j1, hs.j2, hs.j3, hs.j4, hs.j5, fun s hm => ?_, hs.m0, hs.s0, hs.s1⟩
    rcases hm with hm | hm
    · exact hs.m1 s hm
    · exact .inr ⟨out_open_fl h4 h.s0 s hm, (out_sameE x0).st.trans h4⟩
theorem Hs.out1 (h : Hs x0 x1 M0 M1) {iss iss' : Int} {P P' G : List UInt8} {u n t r : Nat} (hI : EndI iss iss' P P' G u n t r x1) (hi : U32 iss) : Hs x0 (outE x1).1 (fun s => M0 s ∨ s ∈ (outE x1).2) M1 := by
  rcases h.j1 with h1 | h3 | h4
  · unfold outE
    rw [if_neg (by omega), if_neg (by omega)]
    exact h.less (fun s a => a.elim id (fun b => by simp at b)) (fun _ a => a)
  · unfold outE
    by_cases hn : x1.nxt = x1.una
    · rw [if_pos ⟨.inr h3, hn⟩]
      obtain ⟨k1, -, -⟩ := syn_top hI hi (.inr h3) hn
      have hs := h.same1 (y := sayE x1 1 0) rfl (fun _ _ => k1) rfl (fun a => by omega)
      refine ⟨hs.j0, hs.j1, hs.j2, hs.j3, hs.j4, hs.j5, hs.m1, fun s hm => ?_, hs.s0, hs.s1⟩
      rcases hm with hm | hm
      · exact hs.m0 s hm
      · obtain rfl := List.mem_singleton.1 hm
        refine .inl ⟨?_, by show x1.st ≠ 1; omega, fun _ => k1⟩
        show flE x1 1 = 3
        unfold flE
        rw [if_pos (by omega)]
        rfl
    · rw [if_neg (fun a => hn a.2), if_neg (by omega)]
      exact h.less (fun s a => a.elim id (fun b => by simp at b)) (fun _ a => a)
  · have hs := h.same1 (y := (outE x1).1) (out_sameE x1).st (fun a => by omega) (out_sameE x1).shut (fun a => by omega)
    refine ⟨hs.j0, hs.j1, hs.j2, hs.j3, hs.j4, hs.j5, hs.m1, fun s hm => ?_, hs.s0, hs.s1⟩
    rcases hm with hm | hm
    · exact hs.m0 s hm
    · exact .inr ⟨out_open_fl h4 h.s1 s hm, (out_sameE x1).st.trans h4⟩
theorem Hs.tick0 (h : Hs x0 x1 M0 M1) {B : Int} (ht : Tame x0 B) (hB : B ≤ 19) : Hs (tickE x0) x1 M0 M1 := by
  obtain ⟨k1, k2, k3, k4, k5, -⟩ := tick_case ht hB
  exact h.same0 k1 (fun _ a => by rw [k4, k3]; exact a) k5
theorem Hs.tick1 (h : Hs x0 x1 M0 M1) {B : Int} (ht : Tame x1 B) (hB : B ≤ 19) : Hs x0 (tickE x1) M0 M1 := by
  obtain ⟨k1, k2, k3, k4, k5, k6, k7, k8, k9, k10, k11, k12⟩ := tick_case ht hB
  refine h.same1 k1 (fun _ a => by rw [k4, k3]; exact a) k5 (fun _ a => ?_)
  rw [k10 a.symm]
  exact a
theorem write_keeps (e : EndD) (ds : List UInt8) : (writeE e ds).1.st = e.st ∧ (writeE e ds).1.shut = e.shut ∧ (writeE e ds).1.top = e.top ∧ (writeE e ds).1.first = e.first ∧ (writeE e ds).1.nxt = e.nxt ∧ (writeE e ds).1.una = e.una := by
  unfold writeE
  split
  · exact ⟨rfl, rfl, rfl, rfl, rfl, rfl⟩
  split
  · exact ⟨rfl, rfl, rfl, rfl, rfl, rfl⟩
  split <;> exact ⟨rfl, rfl, rfl, rfl, rfl, rfl⟩
end
end Go.Proofs.Ytkfpmljlgpobjaa
