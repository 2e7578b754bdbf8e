/- Where the places of both ends begin is of no matter. Plain laws. -/
import Derived.Test.YtacfffegmmdgfaaLineP
namespace Go.Proofs.Ytacfffegmmdgfaa
open Go.RowKit
set_option linter.unusedVariables false

def sh (t x : Int) : Int := (x + t) % 4294967296
theorem sh_u (t x : Int) : U32 (sh t x) := ⟨Int.emod_nonneg _ (by omega), Int.emod_lt_of_pos _ (by omega)⟩
theorem sh_inj {t x y : Int} (hx : U32 x) (hy : U32 y) : sh t x = sh t y ↔ x = y := by
  obtain ⟨x1, x2⟩ := hx
  obtain ⟨y1, y2⟩ := hy
  unfold sh
  constructor
  · intro h; omega
  · rintro rfl; rfl
theorem sh_add (t x n : Int) : (sh t x + n) % 4294967296 = sh t ((x + n) % 4294967296) := by unfold sh; omega
theorem sh_sub (t x y : Int) : (sh t x - sh t y) % 4294967296 = (x - y) % 4294967296 := by unfold sh; omega
theorem sh_before (t x y : Int) : beforeB (sh t x) (sh t y) = beforeB x y := by unfold beforeB; rw [sh_sub]
/-- The same end, its own places moved by t, those of the other end by t'. -/
structure ShE (t t' : Int) (e e' : EndD) : Prop where
  st : e'.st = e.st
  una : e'.una = sh t e.una
  nxt : e'.nxt = sh t e.nxt
  top : e'.top = sh t e.top
  first : e'.first = sh t e.first
  rcv : e.st = 3 ∨ e.st = 4 → e'.rcv = sh t' e.rcv
  out : e'.out = e.out
  inn : e'.inn = e.inn
  peer : e'.peer = e.peer
  shut : e'.shut = e.shut
  fin : e'.fin = e.fin
  due : e'.due = e.due
  wait : e'.wait = e.wait
  tries : e'.tries = e.tries
  u1 : U32 e.una
  u2 : U32 e.nxt
  u3 : U32 e.top
  u4 : U32 e.first
  u5 : U32 e.rcv
  r : 0 ≤ e.st ∧ e.st ≤ 5
/-- A segment to an end whose own places are moved by t, those of the other end by t'. -/
def shS (t t' : Int) (s : SegD) : SegD := { s with seq := sh t' s.seq, ack := if s.fl = 1 then s.ack else sh t s.ack }
theorem u32_mod (x : Int) : U32 (x % 4294967296) := ⟨Int.emod_nonneg _ (by omega), Int.emod_lt_of_pos _ (by omega)⟩
section
variable {t t' : Int} {e e' : EndD}
theorem ShE.take (h : ShE t t' e e') (h4 : e.st = 4) (q f : Int) (ds : List UInt8) (hq : U32 q) : ShE t t' (takeE e q f ds) (takeE e' (sh t' q) f ds) := by
  have hr : refuseB e' (sh t' q) f ds.length = refuseB e q f ds.length := by
    unfold refuseB
    rw [h.fin, h.inn, h.rcv (.inr h4)]
    have : (sh t' q ≠ sh t' e.rcv) = (q ≠ e.rcv) := by rw [ne_eq, sh_inj hq h.u5]
    simp only [this]
  unfold takeE
  rw [hr]
  split
  · exact h
  split
  · exact ⟨h.st, h.una, h.nxt, h.top, h.first, h.rcv, h.out, h.inn, h.peer, h.shut, h.fin, rfl, h.wait, h.tries, h.u1, h.u2, h.u3, h.u4, h.u5, h.r⟩
  · refine ⟨h.st, h.una, h.nxt, h.top, h.first, fun _ => ?_, h.out, ?_, h.peer, h.shut, rfl, rfl, h.wait, h.tries, h.u1, h.u2, h.u3, h.u4, u32_mod _, h.r⟩
    · show (e'.rcv + _) % 4294967296 = sh t' ((e.rcv + _) % 4294967296)
      rw [h.rcv (.inr h4), sh_add]
    · show e'.inn ++ ds = e.inn ++ ds
      rw [h.inn]
theorem ShE.answer (h : ShE t t' e e') (a wd : Int) (ha : U32 a) : ShE t t' (answerE e a wd) (answerE e' (sh t a) wd) ∧ (answerE e a wd).st = e.st := by
  have hM : ansM e' (sh t a) = ansM e a := by unfold ansM; rw [h.una, sh_sub]
  have hK : ansK e' (sh t a) = ansK e a := by unfold ansK; rw [hM, h.out]
  unfold answerE
  rw [hM, h.top, h.una, sh_before, sh_before]
  split
  · exact ⟨h, rfl⟩
  split
  · exact ⟨⟨(by first | exact h.st | rfl), (by first | exact h.una | rfl), (by first | exact h.nxt | rfl), (by first | exact h.top | rfl), h.first, h.rcv, h.out, h.inn, rfl, h.shut, h.fin, h.due, (by first | exact h.wait | rfl), rfl, h.u1, h.u2, h.u3, h.u4, h.u5, h.r⟩, rfl⟩
  · refine ⟨⟨(by first | exact h.st | rfl), rfl, ?_, (by first | exact h.top | rfl), ?_, h.rcv, ?_, h.inn, rfl, h.shut, h.fin, h.due, rfl, rfl, ha, ?_, h.u3, u32_mod _, h.u5, h.r⟩, rfl⟩
    · show (if beforeB e'.nxt (sh t a) = true then sh t a else e'.nxt) = sh t (if beforeB e.nxt a = true then a else e.nxt)
      rw [h.nxt, sh_before]
      split <;> rfl
    · show (e'.first + (ansK e' (sh t a) : Nat)) % 4294967296 = sh t ((e.first + (ansK e a : Nat)) % 4294967296)
      rw [h.first, hK, sh_add]
    · show e'.out.drop (ansK e' (sh t a)) = e.out.drop (ansK e a)
      rw [h.out, hK]
    · show U32 (if beforeB e.nxt a = true then a else e.nxt)
      split
      · exact ha
      · exact h.u2
theorem ShE.come (h : ShE t t' e e') (s : SegD) (hs : s.Ok) : ShE t t' (comeS e s) (comeS e' (shS t t' s)) := by
  have hfl : (shS t t' s).fl = s.fl := rfl
  have hwd : (shS t t' s).wd = s.wd := rfl
  have hds : (shS t t' s).data = s.data := rfl
  have hsq : (shS t t' s).seq = sh t' s.seq := rfl
  have hak : s.fl ≠ 1 → (shS t t' s).ack = sh t s.ack := fun h1 => if_neg h1
  have u1 := hs.seq
  have u2 := hs.ack
  have hf := hs.fl
  unfold comeS comeE
  rw [hfl, hwd, hds, hsq, h.st]
  split
  · exact h
  split
  · split
    · exact h
    · exact ⟨rfl, h.una, h.nxt, h.top, h.first, fun a => by rcases a with a | a <;> exact absurd (show (5 : Int) = _ from a) (by omega), h.out, h.inn, h.peer, h.shut, h.fin, h.due, h.wait, h.tries, h.u1, h.u2, h.u3, h.u4, h.u5, ⟨by show (0 : Int) ≤ 5; omega, by show (5 : Int) ≤ 5; omega⟩⟩
  split
  · split
    · exact ⟨rfl, h.una, h.nxt, h.top, h.first, fun _ => sh_add _ _ _, h.out, h.inn, rfl, h.shut, h.fin, h.due, h.wait, h.tries, h.u1, h.u2, h.u3, h.u4, u32_mod _, ⟨by show (0 : Int) ≤ 3; omega, by show (3 : Int) ≤ 5; omega⟩⟩
    · exact h
  split
  · by_cases hc : s.fl = 3 ∧ s.ack = e.first ∧ e.top = e.first
    · rw [if_pos hc, if_pos ⟨hc.1, by rw [hak (by omega), h.first, hc.2.1], by rw [h.top, h.first, hc.2.2]⟩]
      exact ⟨rfl, h.first, h.first, h.first, h.first, fun _ => sh_add _ _ _, h.out, h.inn, rfl, h.shut, h.fin, rfl, rfl, rfl, h.u4, h.u4, h.u4, h.u4, u32_mod _, ⟨by show (0 : Int) ≤ 4; omega, by show (4 : Int) ≤ 5; omega⟩⟩
    · rw [if_neg hc, if_neg (fun hc' => hc ⟨hc'.1, (sh_inj u2 h.u4).1 (by rw [← hak (by omega), ← h.first]; exact hc'.2.1), (sh_inj h.u3 h.u4).1 (by rw [← h.top, ← h.first]; exact hc'.2.2)⟩)]
      exact h
  split
  · rename_i h3
    split
    · have hc : ((sh t' s.seq + 1) % 4294967296 = e'.rcv) = ((s.seq + 1) % 4294967296 = e.rcv) := by
        rw [sh_add, h.rcv (.inl h3), sh_inj (u32_mod _) h.u5]
      simp only [hc]
      split
      · exact ⟨(by first | exact h.st | rfl), (by first | exact h.una | rfl), (by first | exact h.una | rfl), (by first | exact h.top | rfl), h.first, h.rcv, h.out, h.inn, h.peer, h.shut, h.fin, h.due, (by first | exact h.wait | rfl), (by first | exact h.tries | rfl), h.u1, h.u1, h.u3, h.u4, h.u5, h.r⟩
      · exact h
    · rename_i hodd
      have hc : ((shS t t' s).ack = e'.first ∧ e'.top = e'.first) = (s.ack = e.first ∧ e.top = e.first) := by
        rw [hak (by omega), h.first, h.top, sh_inj u2 h.u4, sh_inj h.u3 h.u4]
      simp only [hc]
      split
      · have hh : ShE t t' (heardE e s.wd) (heardE e' s.wd) := ⟨rfl, h.first, h.first, h.top, h.first, fun _ => h.rcv (.inl h3), h.out, h.inn, rfl, h.shut, h.fin, h.due, rfl, rfl, h.u4, h.u4, h.u3, h.u4, h.u5, ⟨by show (0 : Int) ≤ 4; omega, by show (4 : Int) ≤ 5; omega⟩⟩
        exact hh.take rfl _ _ _ u1
      · exact h
  · rename_i h1 h8 h2 h3 h5
    have h4 : e.st = 4 := by have := h.r; omega
    split
    · exact h.take h4 _ _ _ u1
    · rename_i hodd
      rw [hak (by omega)]
      obtain ⟨k1, k2⟩ := h.answer s.ack s.wd u2
      exact k1.take (k2.trans h4) _ _ _ u1
theorem ShE.say (h : ShE t t' e e') (f n : Int) : ShE t t' (sayE e f n) (sayE e' f n) := by
  have hx : nxtE e' f n = sh t (nxtE e f n) := by unfold nxtE; rw [h.nxt, sh_add]
  refine ⟨h.st, h.una, hx, ?_, h.first, h.rcv, h.out, h.inn, h.peer, h.shut, h.fin, rfl, h.wait, h.tries, h.u1, u32_mod _, ?_, h.u4, h.u5, h.r⟩
  · show (if beforeB e'.top (nxtE e' f n) = true then nxtE e' f n else e'.top) = sh t (if beforeB e.top (nxtE e f n) = true then nxtE e f n else e.top)
    rw [hx, h.top, sh_before]
    split <;> rfl
  · show U32 (if beforeB e.top (nxtE e f n) = true then nxtE e f n else e.top)
    split
    · exact u32_mod _
    · exact h.u3
/-- What is said: to the other end, whose own places are moved by t'. -/
theorem ShE.seg (h : ShE t t' e e') (f : Int) (ds : List UInt8) (hst : e.st = 2 ∧ f = 1 ∨ e.st = 3 ∧ f = 1 ∨ e.st = 4 ∧ (f = 0 ∨ f = 4)) : segOf e' f ds = shS t' t (segOf e f ds) := by
  unfold segOf shS
  have h1 : flE e' f = flE e f := by unfold flE; rw [h.st]
  rw [h1, h.nxt, h.inn]
  dsimp only
  congr 1
  unfold ackE
  rw [h.st]
  by_cases h3 : 3 ≤ e.st
  · have hfl : flE e f ≠ 1 := by unfold flE; rw [if_pos h3]; omega
    rw [if_pos h3, if_pos h3, if_neg hfl, h.rcv (by omega)]
  · have hfl : flE e f = 1 := by unfold flE; rw [if_neg h3]; omega
    rw [if_neg h3, if_neg h3, if_pos hfl]
theorem ShE.at_ (h : ShE t t' e e') : outAt e' = outAt e := by unfold outAt; rw [h.nxt, h.first, sh_sub]
theorem ShE.loop (K : Nat) : ∀ {e e' : EndD}, ShE t t' e e' → e.st = 4 → ShE t t' (outLoop K e).1 (outLoop K e').1 ∧ (outLoop K e').2 = (outLoop K e).2.map (shS t' t) ∧ (outLoop K e).1.st = 4 := by
  induction K with
  | zero => exact fun h h4 => ⟨h, rfl, h4⟩
  | succ K ih =>
    intro e e' h h4
    have hN : outN e' = outN e := by unfold outN; rw [h.at_, h.out, h.peer]
    have hD : outDs e' = outDs e := by unfold outDs; rw [hN, h.at_, h.out]
    rw [outLoop, outLoop, hN]
    split
    · exact ⟨h, rfl, h4⟩
    · obtain ⟨k1, k2, k3⟩ := ih (h.say 0 (outN e)) h4
      refine ⟨k1, ?_, k3⟩
      dsimp only
      rw [k2, List.map_cons, hD, h.seg 0 (outDs e) (.inr (.inr ⟨h4, .inl rfl⟩))]
theorem ShE.outE (h : ShE t t' e e') : ShE t t' (outE e).1 (outE e').1 ∧ (Proofs.Ytacfffegmmdgfaa.outE e').2 = (Proofs.Ytacfffegmmdgfaa.outE e).2.map (shS t' t) := by
  have hc : (e'.nxt = e'.una) = (e.nxt = e.una) := by rw [h.nxt, h.una, sh_inj h.u2 h.u1]
  unfold Proofs.Ytacfffegmmdgfaa.outE
  rw [h.st]
  simp only [hc]
  split
  · rename_i hh
    refine ⟨h.say 1 0, ?_⟩
    dsimp only
    rw [h.seg 1 [] (by omega)]
    rfl
  split
  · rename_i h4
    obtain ⟨k1, k2, k3⟩ := h.loop 64 h4
    -- the end of it
    have hfin : ShE t t' (outFin (outLoop 64 e)).1 (outFin (outLoop 64 e')).1 ∧ (outFin (outLoop 64 e')).2 = (outFin (outLoop 64 e)).2.map (shS t' t) ∧ (outFin (outLoop 64 e)).1.st = 4 := by
      unfold outFin
      rw [k1.shut, k1.at_, k1.out]
      split
      · refine ⟨k1.say 4 0, ?_, k3⟩
        dsimp only
        rw [k2, List.map_append, k1.seg 4 [] (.inr (.inr ⟨k3, .inr rfl⟩))]
        rfl
      · exact ⟨k1, k2, k3⟩
    obtain ⟨q1, q2, q3⟩ := hfin
    unfold outDue
    rw [q1.due]
    split
    · refine ⟨q1.say 0 0, ?_⟩
      dsimp only
      rw [q2, List.map_append, q1.seg 0 [] (.inr (.inr ⟨q3, .inl rfl⟩))]
      rfl
    · exact ⟨q1, q2⟩
  · exact ⟨h, rfl⟩
theorem ShE.tick (h : ShE t t' e e') : ShE t t' (tickE e) (tickE e') := by
  have hb : begunB e' = begunB e := by unfold begunB; rw [h.st]
  have hc : (e'.una = e'.nxt) = (e.una = e.nxt) := by rw [h.nxt, h.una, sh_inj h.u1 h.u2]
  unfold tickE
  rw [hb, h.wait, h.tries]
  simp only [hc]
  split
  · exact h
  split
  · exact ⟨(by first | exact h.st | rfl), (by first | exact h.una | rfl), (by first | exact h.nxt | rfl), (by first | exact h.top | rfl), h.first, h.rcv, h.out, h.inn, h.peer, h.shut, h.fin, h.due, rfl, (by first | exact h.tries | rfl), h.u1, h.u2, h.u3, h.u4, h.u5, h.r⟩
  split
  · exact ⟨rfl, h.una, h.nxt, h.top, h.first, fun a => by rcases a with a | a <;> exact absurd (show (5 : Int) = _ from a) (by omega), h.out, h.inn, h.peer, h.shut, h.fin, h.due, rfl, rfl, h.u1, h.u2, h.u3, h.u4, h.u5, ⟨by show (0 : Int) ≤ 5; omega, by show (5 : Int) ≤ 5; omega⟩⟩
  · exact ⟨(by first | exact h.st | rfl), (by first | exact h.una | rfl), (by first | exact h.una | rfl), (by first | exact h.top | rfl), h.first, h.rcv, h.out, h.inn, h.peer, h.shut, h.fin, h.due, rfl, rfl, h.u1, h.u1, h.u3, h.u4, h.u5, h.r⟩
theorem ShE.write (h : ShE t t' e e') (ds : List UInt8) : ShE t t' (writeE e ds).1 (writeE e' ds).1 ∧ (writeE e' ds).2 = (writeE e ds).2 := by
  have hb : begunB e' = begunB e := by unfold begunB; rw [h.st]
  have hn : wrN e' ds.length = wrN e ds.length := by unfold wrN; rw [h.out]
  unfold writeE
  rw [hb, h.st, h.shut, h.out, hn]
  split
  · exact ⟨h, rfl⟩
  split
  · exact ⟨h, rfl⟩
  split
  · exact ⟨h, rfl⟩
  · refine ⟨⟨h.st, h.una, h.nxt, h.top, h.first, h.rcv, ?_, h.inn, h.peer, h.shut, h.fin, h.due, h.wait, h.tries, h.u1, h.u2, h.u3, h.u4, h.u5, h.r⟩, rfl⟩
    show e'.out ++ ds.take (wrN e' ds.length) = e.out ++ ds.take (wrN e ds.length)
    rw [h.out, hn]
theorem ShE.read (h : ShE t t' e e') (n : Nat) : readErr e' n = readErr e n ∧ ShE t t' (readTo e n) (readTo e' n) ∧ e'.inn.take (readN e' n) = e.inn.take (readN e n) := by
  have hn : readN e' n = readN e n := by unfold readN; rw [h.inn]
  refine ⟨?_, ⟨h.st, h.una, h.nxt, h.top, h.first, h.rcv, h.out, ?_, h.peer, h.shut, h.fin, ?_, h.wait, h.tries, h.u1, h.u2, h.u3, h.u4, h.u5, h.r⟩, by rw [hn, h.inn]⟩
  · unfold readErr
    rw [h.st, h.inn, h.fin]
  · show e'.inn.drop (readN e' n) = e.inn.drop (readN e n)
    rw [hn, h.inn]
  · show (e'.due || (decide (0 < readN e' n) && decide (e'.st = 4))) = (e.due || (decide (0 < readN e n) && decide (e.st = 4)))
    rw [h.due, hn, h.st]
theorem ShE.shut_ (h : ShE t t' e e') : ShE t t' (shutE e).1 (shutE e').1 := by
  have hb : begunB e' = begunB e := by unfold begunB; rw [h.st]
  unfold shutE
  rw [hb, h.shut]
  split
  · exact h
  · exact ⟨h.st, h.una, h.nxt, h.top, h.first, h.rcv, h.out, h.inn, h.peer, rfl, h.fin, h.due, h.wait, h.tries, h.u1, h.u2, h.u3, h.u4, h.u5, h.r⟩
end
/-- The same line, end i's places moved by m i. -/
structure ShL (m : Nat → Int) (d d' : LineD) : Prop where
  e : ∀ i, i < 2 → ShE (m i) (m (1 - i)) (d.e i) (d'.e i)
  p : ∀ i, i < 2 → d'.p i = d.p i
  g : ∀ i, i < 2 → d'.g i = d.g i
  y : d'.y = d.y.map fun x => (x.1, shS (m x.1) (m (1 - x.1)) x.2)
  dst : ∀ x ∈ d.y, x.1 < 2
  ok : ∀ x ∈ d.y, x.2.Ok
  oke : ∀ i, i < 2 → (d.e i).Ok
section
variable {m : Nat → Int} {d d' : LineD}
theorem upd_both {P : Nat → EndD → EndD → Prop} {f f' : Nat → EndD} {i : Nat} {x x' : EndD} (h : ∀ j, j < 2 → P j (f j) (f' j)) (hx : P i x x') : ∀ j, j < 2 → P j (upd f i x j) (upd f' i x' j) := by
  intro j hj
  by_cases e : j = i
  · subst e
    rw [upd_same, upd_same]
    exact hx
  · rw [upd_other _ _ e, upd_other _ _ e]
    exact h j hj
theorem upd_eq {f f' : Nat → List UInt8} {i : Nat} {x x' : List UInt8} (h : ∀ j, j < 2 → f' j = f j) (hx : x' = x) : ∀ j, j < 2 → upd f' i x' j = upd f i x j := by
  intro j hj
  subst hx
  unfold upd
  split
  · rfl
  · exact h j hj
theorem upd_ok {f : Nat → EndD} {i : Nat} {x : EndD} (h : ∀ j, j < 2 → (f j).Ok) (hx : x.Ok) : ∀ j, j < 2 → (upd f i x j).Ok := by
  intro j hj
  unfold upd
  split
  · exact hx
  · exact h j hj
theorem map_eraseL {α β : Type} (f : α → β) : ∀ (l : List α) (k : Nat), (l.map f).eraseIdx k = (l.eraseIdx k).map f
  | [], k => by simp
  | x :: l, 0 => by simp
  | x :: l, k + 1 => by simp [map_eraseL f l k]
theorem lay_map (y : List (Nat × SegD)) (i : Nat) (l : List SegD) (hi : i < 2) : lay (y.map fun x => (x.1, shS (m x.1) (m (1 - x.1)) x.2)) i (l.map (shS (m (1 - i)) (m i))) = (lay y i l).map fun x => (x.1, shS (m x.1) (m (1 - x.1)) x.2) := by
  unfold lay
  rw [List.map_append, List.length_map, List.map_take, List.map_map, List.map_map]
  congr 2
  apply List.map_congr_left
  intro s _
  show (1 - i, shS (m (1 - i)) (m i) s) = (1 - i, shS (m (1 - i)) (m (1 - (1 - i))) s)
  rw [show 1 - (1 - i) = i by omega]
theorem ShL.send1 (h : ShL m d d') {i : Nat} (hi : i < 2) : ShL m (sendI d i) (sendI d' i) := by
  obtain ⟨k1, k2⟩ := (h.e i hi).outE
  obtain ⟨o1, o2⟩ := out_ok (h.oke i hi)
  refine ⟨upd_both h.e k1, h.p, h.g, ?_, to_send h.dst i, ?_, upd_ok h.oke o1⟩
  · show lay d'.y i (outE (d'.e i)).2 = _
    rw [k2, h.y, lay_map _ _ _ hi]
    rfl
  · intro x hx
    have hx : x ∈ d.y ++ ((outE (d.e i)).2.map fun s => (1 - i, s)).take (64 - d.y.length) := hx
    rcases List.mem_append.1 hx with h1 | h1
    · exact h.ok x h1
    · obtain ⟨s, hs, rfl⟩ := List.mem_map.1 (List.mem_of_mem_take h1)
      exact o2 s hs
theorem ShL.send (h : ShL m d d') : ShL m (sendP d) (sendP d') := (h.send1 (i := 0) (by omega)).send1 (by omega)
theorem shut_okE {e : EndD} (ok : e.Ok) : (shutE e).1.Ok := by
  unfold shutE
  split
  · exact ok
  · exact ⟨ok.st, ok.una, ok.nxt, ok.top, ok.first, ok.rcv, ok.out, ok.inn, ok.peer, ok.wait, ok.tries⟩
theorem ShL.own (h : ShL m d d') {i : Nat} (hi : i < 2) (k : Int) (n : Nat) (ds : List UInt8) : ShL m (ownP d i k n ds) (ownP d' i k n ds) := by
  unfold ownP
  split
  · obtain ⟨k1, k2⟩ := (h.e i hi).write ds
    refine ⟨upd_both h.e k1, ?_, h.g, h.y, h.dst, h.ok, upd_ok h.oke (wrTo_ok (h.oke i hi) ds)⟩
    exact upd_eq h.p (by rw [k2, h.p i hi])
  split
  · obtain ⟨k1, k2, k3⟩ := (h.e i hi).read n
    unfold takeI
    rw [k1]
    split
    · exact h
    · exact ⟨upd_both h.e k2, h.p, upd_eq h.g (by rw [k3, h.g i hi]), h.y, h.dst, h.ok, upd_ok h.oke (readTo_ok (h.oke i hi) n)⟩
  split
  · exact ⟨upd_both h.e (h.e i hi).shut_, h.p, h.g, h.y, h.dst, h.ok, upd_ok h.oke (shut_okE (h.oke i hi))⟩
  · exact h
theorem ShL.len (h : ShL m d d') : d'.y.length = d.y.length := by rw [h.y, List.length_map]
theorem ShL.lose (h : ShL m d d') (n : Nat) : ShL m (loseP d n) (loseP d' n) := by
  refine ⟨h.e, h.p, h.g, ?_, fun x hx => h.dst x (List.mem_of_mem_eraseIdx hx), fun x hx => h.ok x (List.mem_of_mem_eraseIdx hx), h.oke⟩
  show d'.y.eraseIdx n = (d.y.eraseIdx n).map _
  rw [h.y, map_eraseL]
theorem ShL.heard (h : ShL m d d') (n : Nat) : ShL m (heardP d n) (heardP d' n) := by
  have e : (d'.y)[n]? = ((d.y)[n]?).map fun x => (x.1, shS (m x.1) (m (1 - x.1)) x.2) := by rw [h.y, List.getElem?_map]
  unfold heardP
  rw [e]
  cases hx : (d.y)[n]? with
  | none => exact h
  | some x =>
    obtain ⟨j, s⟩ := x
    have hm := List.mem_of_getElem? hx
    have hj := h.dst _ hm
    have hs := h.ok _ hm
    dsimp only at hj hs
    simp only [Option.map_some]
    show ShL m { d with e := upd d.e j (comeS (d.e j) s) } { d' with e := upd d'.e j (comeS (d'.e j) (shS (m j) (m (1 - j)) s)) }
    exact ⟨upd_both h.e ((h.e j hj).come s hs), h.p, h.g, h.y, h.dst, h.ok, upd_ok h.oke (comeS_ok (h.oke j hj) hs)⟩
theorem ShL.deed (h : ShL m d d') (k : Int) (n : Nat) : ShL m (deedP d k n) (deedP d' k n) := by
  unfold deedP
  split
  · unfold copyP
    rw [h.len]
    split
    · refine ⟨h.e, h.p, h.g, ?_, fun x hx => ?_, fun x hx => ?_, h.oke⟩
      · show d'.y ++ ((d'.y)[n]?).toList = (d.y ++ ((d.y)[n]?).toList).map _
        rw [List.map_append, h.y, List.getElem?_map]
        congr 1
        cases (d.y)[n]? <;> rfl
      · rcases List.mem_append.1 hx with h1 | h1
        · exact h.dst x h1
        · exact h.dst x (List.mem_of_getElem? (Option.mem_toList.1 h1))
      · rcases List.mem_append.1 hx with h1 | h1
        · exact h.ok x h1
        · exact h.ok x (List.mem_of_getElem? (Option.mem_toList.1 h1))
    · exact h
  split
  · exact (h.heard n).lose n
  · exact h.lose n
end
/-- An end's tries are not at their end. -/
structure ShT (m : Nat → Int) (d d' : LineD) : Prop where
  s : ShL m d d'
  live : ∀ i, i < 2 → Live (d.e i)
section
variable {m : Nat → Int} {d d' : LineD}
theorem upd_live {f : Nat → EndD} {i : Nat} {x : EndD} (h : ∀ j, j < 2 → Live (f j)) (hx : Live x) : ∀ j, j < 2 → Live (upd f i x j) := by
  intro j hj
  unfold upd
  split
  · exact hx
  · exact h j hj
theorem ShT.tick (h : ShT m d d') {i : Nat} (hi : i < 2) : ShT m (tickL d i) (tickL d' i) := by
  obtain ⟨k1, k2⟩ := tick_ok (h.s.oke i hi) (h.live i hi)
  exact ⟨⟨upd_both h.s.e (h.s.e i hi).tick, h.s.p, h.s.g, h.s.y, h.s.dst, h.s.ok, upd_ok h.s.oke k1⟩, upd_live h.live k2⟩
theorem shut_live {e : EndD} (h : Live e) : Live (shutE e).1 := by
  unfold shutE
  split <;> exact h
theorem live_doneI (h : ∀ i, i < 2 → Live (d.e i)) (hok : ∀ i, i < 2 → (d.e i).Ok) (x : DeedD) : ∀ i, i < 2 → Live ((doneP d x).e i) := by
  unfold doneP
  split
  · rename_i hc
    have hi : x.end_.toNat < 2 := by have := hc.2.2; omega
    unfold ownP
    split
    · exact upd_live h (write_live (h _ hi) _)
    split
    · unfold takeI
      split
      · exact h
      · exact upd_live h (h _ hi)
    split
    · exact upd_live h (shut_live (h _ hi))
    · exact h
  split
  · have hh : ∀ n i, i < 2 → Live ((heardP d n).e i) := by
      intro n
      unfold heardP
      split
      · rename_i x _
        intro i hi
        show Live (upd d.e x.1 _ i)
        unfold upd
        split
        · rename_i e
          exact come_live (h _ (by omega)) _
        · exact h i hi
      · exact h
    unfold deedP
    split
    · unfold copyP
      split <;> exact h
    split
    · exact hh _
    · exact h
  split
  · refine upd_live (upd_live h (tick_ok (hok 0 (by omega)) (h 0 (by omega))).2) ?_
    show Live (tickE (upd d.e 0 (tickE (d.e 0)) 1))
    rw [upd_other _ _ (by decide)]
    exact (tick_ok (hok 1 (by omega)) (h 1 (by omega))).2
  · exact h
theorem ShT.step (h : ShT m d d') (x : DeedD) : ShT m (stepL d x) (stepL d' x) := by
  have hd : ShL m (doneP d x) (doneP d' x) := by
    unfold doneP
    rw [h.s.len]
    split
    · rename_i hc
      exact h.s.own (by have := hc.2.2; omega) _ _ _
    split
    · exact h.s.deed _ _
    split
    · exact ((h.tick (i := 0) (by omega)).tick (i := 1) (by omega)).s
    · exact h.s
  have hl := live_doneI h.live h.s.oke x
  refine ⟨hd.send, ?_⟩
  show ∀ i, i < 2 → Live (upd (upd (doneP d x).e 0 (outE ((doneP d x).e 0)).1) 1 (outE (upd (doneP d x).e 0 (outE ((doneP d x).e 0)).1 1)).1 i)
  refine upd_live (upd_live hl (out_live (hl 0 (by omega)))) ?_
  rw [upd_other _ _ (by decide)]
  exact out_live (hl 1 (by omega))
theorem ShT.fold (l : List DeedD) : ∀ {d d' : LineD}, ShT m d d' → ShT m (l.foldl stepL d) (l.foldl stepL d') := by
  induction l with
  | nil => exact fun h => h
  | cons x l ih => exact fun h => ih (h.step x)
end
theorem begin_okE (st iss : Int) (hs : 0 ≤ st ∧ st ≤ 5) (h : U32 iss) : (beginE st iss).Ok :=
  ⟨hs, h, h, h, u32_mod _, ⟨by simp [beginE], by simp [beginE]⟩, by simp [beginE], by simp [beginE], ⟨by simp [beginE], by simp [beginE]⟩, ⟨by simp [beginE], by simp [beginE]⟩, ⟨by simp [beginE], by simp [beginE]⟩⟩
theorem shE_begin (st a c t' : Int) (hs : st = 1 ∨ st = 2) (ha : U32 a) (hc : U32 c) : ShE (c - a) t' (beginE st a) (beginE st c) := by
  have h1 : c = sh (c - a) a := by
    obtain ⟨c1, c2⟩ := hc
    unfold sh
    omega
  refine ⟨rfl, h1, h1, h1, ?_, fun h => absurd (show st = 3 ∨ st = 4 from h) (by omega), rfl, rfl, rfl, rfl, rfl, rfl, rfl, rfl, ha, ha, ha, u32_mod _, ⟨by show (0 : Int) ≤ 0; omega, by show (0 : Int) < 4294967296; omega⟩, ⟨by show 0 ≤ st; omega, by show st ≤ 5; omega⟩⟩
  show (c + 1) % 4294967296 = sh (c - a) ((a + 1) % 4294967296)
  unfold sh
  omega
/-- The law WireAnywhere. -/
theorem anywhere (a b c e : Int) (ha : U32 a) (hb : U32 b) (hc : U32 c) (he : U32 e) (l : List DeedD) : ∀ i, i < 2 → (runL c e l).p i = (runL a b l).p i ∧ (runL c e l).g i = (runL a b l).g i ∧ ((runL c e l).e i).st = ((runL a b l).e i).st ∧ ((runL c e l).e i).fin = ((runL a b l).e i).fin := by
  have h0 : ShT (fun i => if i = 0 then c - a else e - b) (line0 a b) (line0 c e) := by
    refine ⟨⟨fun i hi => ?_, fun _ _ => rfl, fun _ _ => rfl, rfl, fun x hx => by simp [line0] at hx, fun x hx => by simp [line0] at hx, fun i hi => ?_⟩, fun i hi => ?_⟩
    · rcases lt2 hi with rfl | rfl
      · exact shE_begin 2 a c _ (.inr rfl) ha hc
      · exact shE_begin 1 b e _ (.inl rfl) hb he
    · rcases lt2 hi with rfl | rfl
      · exact begin_okE 2 a ⟨by omega, by omega⟩ ha
      · exact begin_okE 1 b ⟨by omega, by omega⟩ hb
    · rcases lt2 hi with rfl | rfl <;> exact fun _ => by simp [line0, beginE]
  have h1 : ShT (fun i => if i = 0 then c - a else e - b) (sendP (line0 a b)) (sendP (line0 c e)) := by
    refine ⟨h0.s.send, ?_⟩
    show ∀ i, i < 2 → Live (upd (upd (line0 a b).e 0 (outE ((line0 a b).e 0)).1) 1 (outE (upd (line0 a b).e 0 (outE ((line0 a b).e 0)).1 1)).1 i)
    refine upd_live (upd_live h0.live (out_live (h0.live 0 (by omega)))) ?_
    rw [upd_other _ _ (by decide)]
    exact out_live (h0.live 1 (by omega))
  have h2 := h1.fold l
  intro i hi
  exact ⟨h2.s.p i hi, h2.s.g i hi, (h2.s.e i hi).st, (h2.s.e i hi).fin⟩
end Go.Proofs.Ytacfffegmmdgfaa
