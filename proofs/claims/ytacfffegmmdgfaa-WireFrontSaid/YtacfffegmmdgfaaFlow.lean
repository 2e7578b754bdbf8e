/- What two ends keep, whatever a line does to what they say: plain laws. -/
import Derived.Test.YtacfffegmmdgfaaFlowBase
namespace Go.Proofs.Ytacfffegmmdgfaa
open Go.RowKit
set_option linter.unusedVariables false

def sq (S : Int) (k : Nat) : Int := (S + k) % 4294967296
theorem sq_u (S : Int) (k : Nat) : U32 (sq S k) := ⟨Int.emod_nonneg _ (by omega), Int.emod_lt_of_pos _ (by omega)⟩
theorem sq_inj {S : Int} {a b : Nat} (ha : a ≤ 200000) (hb : b ≤ 200000) (h : sq S a = sq S b) : a = b := by unfold sq at h; omega
theorem sq_sq (S : Int) (a b : Nat) : sq (sq S a) b = sq S (a + b) := by unfold sq; omega
theorem sq_sub {S : Int} {a b : Nat} (ha : a ≤ 200000) (hb : b ≤ a) : (sq S a - sq S b) % 4294967296 = ((a - b : Nat) : Int) := by unfold sq; omega
theorem before_sq {S : Int} {a b : Nat} (ha : a ≤ 200000) (hb : b ≤ 200000) : beforeB (sq S a) (sq S b) = decide (a < b) := by
  unfold beforeB sq
  rw [Bool.eq_iff_iff, decide_eq_true_iff, decide_eq_true_iff]
  omega
theorem sq_ne (S : Int) : ¬ sq S 1 = S % 4294967296 := by unfold sq; omega

/-- An end with its own first place iss, the other end's iss'; what was put and got here, what was put there; u answered, n said, t the most said, r received. -/
structure EndI (iss iss' : Int) (P P' G : List UInt8) (u n t r : Nat) (e : EndD) : Prop where
  len : t ≤ P.length + (if e.shut = true then 1 else 0)
  un : u ≤ n
  nt : n ≤ t
  first : e.first = sq (sq iss 1) (min u P.length)
  out : e.out = P.drop u
  got : G ++ e.inn = P'.take r
  fin : if e.fin = true then r = P'.length + 1 else r ≤ P'.length
  pre : e.st = 1 ∨ e.st = 2 ∨ e.st = 3 → t = 0 ∧ r = 0 ∧ e.una = iss ∧ (e.nxt = iss ∨ e.nxt = sq iss 1) ∧ (e.top = iss ∨ e.top = sq iss 1)
  opn : e.st = 4 → e.una = sq (sq iss 1) u ∧ e.nxt = sq (sq iss 1) n ∧ e.top = sq (sq iss 1) t
  rcv : e.st = 3 ∨ e.st = 4 → e.rcv = sq (sq iss' 1) r
  st : 1 ≤ e.st ∧ e.st ≤ 5
/-- A segment on its way to an end: P is what was put at the other one, t the most that was said there, r what it received. -/
def SegI (iss iss' : Int) (P' : List UInt8) (t' rr : Nat) (s : SegD) : Prop :=
  (s.fl = 1 ∧ s.seq = iss' ∧ s.data = []) ∨ (s.fl = 3 ∧ s.seq = iss' ∧ s.ack = sq iss 1 ∧ s.data = []) ∨
  ∃ k m, (s.fl = 2 ∧ k + s.data.length ≤ t' ∨ s.fl = 6 ∧ s.data = [] ∧ k = P'.length ∧ t' = P'.length + 1) ∧ s.seq = sq (sq iss' 1) k ∧ s.data = (P'.drop k).take s.data.length ∧ s.ack = sq (sq iss 1) m ∧ m ≤ rr
theorem span_2 (n : Int) : spanF 2 n = n := by simp [spanF]
theorem span_6 (n : Int) : spanF 6 n = n + 1 := by simp [spanF]
theorem span_0 (n : Int) : spanF 0 n = n := by simp [spanF]
theorem span_1 (n : Int) : spanF 1 n = n + 1 := by simp [spanF]
theorem span_4 (n : Int) : spanF 4 n = n + 1 := by simp [spanF]
section
variable {iss iss' : Int} {P P' G : List UInt8} {u n t r : Nat} {e : EndD}
theorem EndI.take_ (h : EndI iss iss' P P' G u n t r e) (h4 : e.st = 4) {t' k : Nat} {f : Int} {ds : List UInt8} (hP' : P'.length ≤ 100000) (hr : r ≤ t') (ht' : t' ≤ P'.length + 1)
    (hf : f = 2 ∧ k + ds.length ≤ t' ∨ f = 6 ∧ ds = [] ∧ k = P'.length ∧ t' = P'.length + 1) (hd : ds = (P'.drop k).take ds.length) : ∃ r', EndI iss iss' P P' G u n t r' (takeE e (sq (sq iss' 1) k) f ds) ∧ r ≤ r' ∧ r' ≤ t' := by
  have hdl : k + ds.length ≤ P'.length ∨ ds.length = 0 := by
    have := congrArg List.length hd
    rw [List.length_take, List.length_drop] at this
    omega
  have due : ∃ r', EndI iss iss' P P' G u n t r' { e with due := true } ∧ r ≤ r' ∧ r' ≤ t' := ⟨r, ⟨h.len, h.un, h.nt, h.first, h.out, h.got, h.fin, h.pre, h.opn, h.rcv, h.st⟩, Nat.le_refl _, hr⟩
  have hrcv := h.rcv (.inr h4)
  have hfin := h.fin
  unfold takeE
  split
  · exact ⟨r, h, Nat.le_refl _, hr⟩
  split
  · exact due
  · rename_i hsp href
    unfold refuseB at href
    simp only [Bool.or_eq_true, decide_eq_true_eq, not_or] at href
    obtain ⟨hodd, hq, hfn, hrm⟩ := href
    have hq : sq (sq iss' 1) k = e.rcv := Decidable.not_not.1 hq
    rw [hrcv] at hq
    have hk : k = r := sq_inj (by omega) (by omega) hq
    subst hk
    have hff : e.fin = false := by simpa using hfn
    rw [hff] at hfin
    simp only [Bool.false_eq_true, if_false] at hfin
    have hgot : G ++ (e.inn ++ ds) = P'.take (k + ds.length) := by
      rw [← List.append_assoc, h.got, List.take_add, ← hd]
    rcases hf with ⟨rfl, hf⟩ | ⟨rfl, rfl, hk, ht⟩
    · rw [span_2] at hsp
      refine ⟨k + ds.length, ⟨h.len, h.un, h.nt, h.first, h.out, hgot, ?_, fun h1 => ?_, h.opn, fun _ => ?_, h.st⟩, by omega, hf⟩
      · show if decide ((2 : Int) / 4 % 2 = 1) = true then k + ds.length = P'.length + 1 else k + ds.length ≤ P'.length
        rw [if_neg (by decide)]
        omega
      · have : e.st = 1 ∨ e.st = 2 ∨ e.st = 3 := h1
        omega
      · simp only [takeTo, span_2]
        rw [hrcv]
        unfold sq
        omega
    · have hgot2 : G ++ (e.inn ++ []) = P'.take (k + 1) := by
        rw [hgot, List.take_of_length_le (by simp; omega), List.take_of_length_le (by omega)]
      refine ⟨k + 1, ⟨h.len, h.un, h.nt, h.first, h.out, hgot2, ?_, fun h1 => ?_, h.opn, fun _ => ?_, h.st⟩, by omega, by omega⟩
      · show if decide ((6 : Int) / 4 % 2 = 1) = true then k + 1 = P'.length + 1 else k + 1 ≤ P'.length
        rw [if_pos (by decide)]
        omega
      · have : e.st = 1 ∨ e.st = 2 ∨ e.st = 3 := h1
        omega
      · simp only [takeTo, span_6]
        rw [hrcv]
        unfold sq
        simp only [List.length_nil]
        omega
theorem EndI.answer_ (h : EndI iss iss' P P' G u n t r e) (h4 : e.st = 4) {m : Nat} (wd : Int) (hP : P.length ≤ 100000) (hm : m ≤ t) : ∃ u' n', EndI iss iss' P P' G u' n' t r (answerE e (sq (sq iss 1) m) wd) ∧ u ≤ u' ∧ (u' = u ∨ u' = m) ∧ (answerE e (sq (sq iss 1) m) wd).st = 4 := by
  obtain ⟨e1, e2, e3⟩ := h.opn h4
  have hl := h.len
  have hun := h.un
  have hnt := h.nt
  have hpl : t ≤ P.length + 1 := by split at hl <;> omega
  unfold answerE
  split
  · exact ⟨u, n, h, Nat.le_refl _, .inl rfl, h4⟩
  rename_i hb
  rw [e1, e3, before_sq (by omega) (by omega), before_sq (by omega) (by omega), decide_eq_true_iff, decide_eq_true_iff] at hb
  have hM : ansM e (sq (sq iss 1) m) = m - u := by unfold ansM; rw [e1, sq_sub (by omega) (by omega)]; omega
  split
  · exact ⟨u, n, ⟨h.len, h.un, h.nt, h.first, h.out, h.got, h.fin, h.pre, h.opn, h.rcv, h.st⟩, Nat.le_refl _, .inl rfl, h4⟩
  · have hK : ansK e (sq (sq iss 1) m) = min m P.length - min u P.length := by
      unfold ansK
      rw [hM, h.out, List.length_drop]
      omega
    refine ⟨m, max n m, ⟨h.len, by omega, by omega, ?_, ?_, h.got, h.fin, fun h1 => ?_, fun _ => ⟨rfl, ?_, e3⟩, h.rcv, h.st⟩, by omega, .inr rfl, h4⟩
    · show (e.first + (ansK e (sq (sq iss 1) m) : Nat)) % 4294967296 = _
      rw [h.first, hK]
      unfold sq
      omega
    · show e.out.drop (ansK e (sq (sq iss 1) m)) = _
      rw [h.out, List.drop_drop, hK]
      by_cases hmp : m ≤ P.length
      · congr 1; omega
      · rw [List.drop_of_length_le (by omega), List.drop_of_length_le (by omega)]
    · have : e.st = 1 ∨ e.st = 2 ∨ e.st = 3 := h1
      omega
    · show (if beforeB e.nxt (sq (sq iss 1) m) = true then sq (sq iss 1) m else e.nxt) = _
      rw [e2, before_sq (by omega) (by omega)]
      simp only [decide_eq_true_eq]
      split
      · congr 1; omega
      · congr 1; omega
theorem EndI.come_ (h : EndI iss iss' P P' G u n t r e) {t' rr : Nat} {s : SegD} (hP : P.length ≤ 100000) (hP' : P'.length ≤ 100000) (hr : r ≤ t') (ht' : t' ≤ P'.length + 1) (hrr : rr ≤ t) (hu : u ≤ rr) (hs : SegI iss iss' P' t' rr s) :
    ∃ u' n' r', EndI iss iss' P P' G u' n' t r' (comeS e s) ∧ r ≤ r' ∧ r' ≤ t' ∧ u' ≤ rr := by
  have same : ∃ u' n' r', EndI iss iss' P P' G u' n' t r' e ∧ r ≤ r' ∧ r' ≤ t' ∧ u' ≤ rr := ⟨u, n, r, h, Nat.le_refl _, hr, hu⟩
  have hst := h.st
  have h8 : ¬ s.fl = 8 := by
    rcases hs with ⟨h1, -⟩ | ⟨h1, -⟩ | ⟨k, m, h1, -⟩ <;> omega
  unfold comeS comeE
  rw [if_neg h8]
  split
  · exact same
  split
  · rename_i h5 h1
    obtain ⟨p1, p2, p3, p4, p5⟩ := h.pre (.inl h1)
    split
    · rename_i hf
      have hq : s.seq = iss' := by
        rcases hs with ⟨_, h1, -⟩ | ⟨h1, -⟩ | ⟨k, m, h1, -⟩
        · exact h1
        · omega
        · omega
      refine ⟨u, n, r, ⟨h.len, h.un, h.nt, h.first, h.out, h.got, h.fin, fun _ => ⟨p1, p2, p3, p4, p5⟩, fun h2 => ?_, fun _ => ?_, ⟨by show (1 : Int) ≤ 3; omega, by show (3 : Int) ≤ 5; omega⟩⟩, Nat.le_refl _, hr, hu⟩
      · exact absurd h2 (by show ¬ (3 : Int) = 4; omega)
      · show (s.seq + 1) % 4294967296 = _
        rw [hq, p2]
        unfold sq
        omega
    · exact same
  split
  · rename_i h5 h1 h2
    obtain ⟨p1, p2, p3, p4, p5⟩ := h.pre (.inr (.inl h2))
    split
    · rename_i hf
      obtain ⟨hf, ha, htf⟩ := hf
      have hq : s.seq = iss' := by
        rcases hs with ⟨_, h1, -⟩ | ⟨_, h1, -⟩ | ⟨k, m, h1, -⟩
        · exact h1
        · exact h1
        · omega
      have hun := h.un
      have hnt := h.nt
      have hu0 : u = 0 := by omega
      have hfs := h.first
      refine ⟨u, n, r, ⟨h.len, h.un, h.nt, h.first, h.out, h.got, h.fin, fun h3 => ?_, fun _ => ⟨?_, ?_, ?_⟩, fun _ => ?_, ⟨by show (1 : Int) ≤ 4; omega, by show (4 : Int) ≤ 5; omega⟩⟩, Nat.le_refl _, hr, hu⟩
      · exact absurd h3 (by show ¬ ((4 : Int) = 1 ∨ (4 : Int) = 2 ∨ (4 : Int) = 3); omega)
      · show e.first = _
        rw [hfs]; congr 1; omega
      · show e.first = _
        rw [hfs]; congr 1; omega
      · show e.first = _
        rw [hfs]; congr 1; omega
      · show (s.seq + 1) % 4294967296 = _
        rw [hq, p2]
        unfold sq
        omega
    · exact same
  split
  · rename_i h5 h1 h2 h3
    obtain ⟨p1, p2, p3, p4, p5⟩ := h.pre (.inr (.inr h3))
    split
    · split
      · exact ⟨u, n, r, ⟨h.len, h.un, h.nt, h.first, h.out, h.got, h.fin, fun _ => ⟨p1, p2, p3, .inl p3, p5⟩, fun h4 => absurd (show e.st = 4 from h4) (by omega), h.rcv, h.st⟩, Nat.le_refl _, hr, hu⟩
      · exact same
    · rename_i hodd
      split
      · rename_i hat
        obtain ⟨ha, htf⟩ := hat
        have hun := h.un
        have hnt := h.nt
        have hfs := h.first
        have hh : EndI iss iss' P P' G u n t r (heardE e s.wd) := by
          refine ⟨h.len, h.un, h.nt, h.first, h.out, h.got, h.fin, fun h6 => ?_, fun _ => ⟨?_, ?_, ?_⟩, fun _ => h.rcv (.inl h3), ⟨by show (1 : Int) ≤ 4; omega, by show (4 : Int) ≤ 5; omega⟩⟩
          · exact absurd h6 (by show ¬ ((4 : Int) = 1 ∨ (4 : Int) = 2 ∨ (4 : Int) = 3); omega)
          · show e.first = _
            rw [hfs]; congr 1; omega
          · show e.first = _
            rw [hfs]; congr 1; omega
          · show e.top = _
            rw [htf, hfs]; congr 1; omega
        rcases hs with ⟨h1, -⟩ | ⟨h1, -⟩ | ⟨k, m, hf, hq, hd, -, -⟩
        · omega
        · omega
        · rw [hq]
          obtain ⟨r', h7, h8, h9⟩ := hh.take_ rfl hP' hr ht' hf hd
          exact ⟨u, n, r', h7, h8, h9, hu⟩
      · exact same
  · rename_i h5 h1 h2 h3
    have h4 : e.st = 4 := by omega
    split
    · rename_i hodd
      unfold takeE
      split
      · exact same
      · have href : refuseB e s.seq s.fl s.data.length = true := by unfold refuseB; simp [hodd]
        rw [if_pos href]
        exact ⟨u, n, r, ⟨h.len, h.un, h.nt, h.first, h.out, h.got, h.fin, h.pre, h.opn, h.rcv, h.st⟩, Nat.le_refl _, hr, hu⟩
    · rename_i hodd
      rcases hs with ⟨h1, -⟩ | ⟨h1, -⟩ | ⟨k, m, hf, hq, hd, ha, hm⟩
      · omega
      · omega
      · rw [hq, ha]
        obtain ⟨u', n', h7, h8, h9, h10⟩ := h.answer_ h4 s.wd hP (Nat.le_trans hm hrr)
        obtain ⟨r', h11, h12, h13⟩ := h7.take_ h10 hP' hr ht' hf hd
        exact ⟨u', n', r', h11, h12, h13, by omega⟩
theorem SegI.mono {P2 : List UInt8} {t' t2 rr r2 : Nat} {s : SegD} (h : SegI iss iss' P' t' rr s) (hp : P' <+: P2) (ht : t' ≤ t2) (hrr : rr ≤ r2) (hfin : t' = P'.length + 1 → P2 = P') (h1 : t' ≤ P'.length + 1) (h2 : t2 ≤ P2.length + 1) : SegI iss iss' P2 t2 r2 s := by
  rcases h with h | h | ⟨k, m, hf, hq, hd, ha, hm⟩
  · exact .inl h
  · exact .inr (.inl h)
  refine .inr (.inr ⟨k, m, ?_, hq, ?_, ha, Nat.le_trans hm hrr⟩)
  · rcases hf with ⟨h3, h4⟩ | ⟨h3, h4, h5, h6⟩
    · exact .inl ⟨h3, by omega⟩
    · have := hfin h6
      subst this
      exact .inr ⟨h3, h4, h5, by omega⟩
  · obtain ⟨X, rfl⟩ := hp
    have hl := congrArg List.length hd
    rw [List.length_take, List.length_drop] at hl
    by_cases h0 : s.data.length = 0
    · rw [h0, List.take_zero]
      exact List.eq_nil_of_length_eq_zero h0
    · rw [List.drop_append, List.take_append_of_le_length (by rw [List.length_drop]; omega)]
      exact hd
theorem EndI.at_ (h : EndI iss iss' P P' G u n t r e) (h4 : e.st = 4) (hP : P.length ≤ 100000) : outAt e = ((n - min u P.length : Nat) : Int) := by
  obtain ⟨e1, e2, e3⟩ := h.opn h4
  have hl := h.len
  have hun := h.un
  have hnt := h.nt
  have hpl : t ≤ P.length + 1 := by split at hl <;> omega
  unfold outAt
  rw [e2, h.first, sq_sub (by omega) (by omega)]
theorem EndI.say_ (h : EndI iss iss' P P' G u n t r e) (h4 : e.st = 4) (hP : P.length ≤ 100000) {f m : Int} {j : Nat} (hj : spanF f m = (j : Int)) (hn : n + j ≤ P.length + (if e.shut = true then 1 else 0)) : EndI iss iss' P P' G u (n + j) (max t (n + j)) r (sayE e f m) := by
  obtain ⟨e1, e2, e3⟩ := h.opn h4
  have hl := h.len
  have hun := h.un
  have hnt := h.nt
  have hpl : t ≤ P.length + 1 := by split at hl <;> omega
  have hpn : n + j ≤ P.length + 1 := by split at hn <;> omega
  have hx : nxtE e f m = sq (sq iss 1) (n + j) := by
    unfold nxtE
    rw [hj, e2]
    unfold sq
    omega
  refine ⟨?_, by omega, by omega, h.first, h.out, h.got, h.fin, fun h1 => ?_, fun _ => ⟨e1, hx, ?_⟩, h.rcv, h.st⟩
  · show max t (n + j) ≤ P.length + (if e.shut = true then 1 else 0)
    omega
  · have : e.st = 1 ∨ e.st = 2 ∨ e.st = 3 := h1
    omega
  · show (if beforeB e.top (nxtE e f m) = true then nxtE e f m else e.top) = _
    rw [hx, e3, before_sq (by omega) (by omega)]
    simp only [decide_eq_true_eq]
    split
    · congr 1; omega
    · congr 1; omega
theorem EndI.loop_ (hP : P.length ≤ 100000) (K : Nat) : ∀ {n t : Nat} {e : EndD}, EndI iss iss' P P' G u n t r e → e.st = 4 →
    ∃ n' t', EndI iss iss' P P' G u n' t' r (outLoop K e).1 ∧ t ≤ t' ∧ (outLoop K e).1.st = 4 ∧ (outLoop K e).1.shut = e.shut ∧ ∀ s ∈ (outLoop K e).2, SegI iss' iss P t' r s := by
  induction K with
  | zero => exact fun {n t e} h h4 => ⟨n, t, h, Nat.le_refl _, h4, rfl, fun s hs => by simp [outLoop] at hs⟩
  | succ K ih =>
    intro n t e h h4
    rw [outLoop]
    split
    · exact ⟨n, t, h, Nat.le_refl _, h4, rfl, fun s hs => by simp at hs⟩
    rename_i hN
    have hat := h.at_ h4 hP
    have hl := h.len
    have hun := h.un
    have hnt := h.nt
    have hpl : t ≤ P.length + 1 := by split at hl <;> omega
    have hol : e.out.length = P.length - u := by rw [h.out, List.length_drop]
    obtain ⟨m, hm⟩ : ∃ m : Nat, outN e = (m : Int) := ⟨(outN e).toNat, by omega⟩
    have hm1 : outN e ≤ e.out.length - outAt e := by unfold outN; omega
    rw [hat, hol, hm] at hm1
    rw [hm] at hN
    have hup : u ≤ P.length := by omega
    have hmn : n + m ≤ P.length := by omega
    have h1 := h.say_ h4 hP (f := 0) (m := outN e) (j := m) (by rw [span_0, hm]) (by omega)
    obtain ⟨n', t', h2, h3, h5, h6, h7⟩ := ih h1 h4
    have ht' : t' ≤ P.length + 1 := by have := h2.len; split at this <;> omega
    refine ⟨n', t', h2, by omega, h5, h6, fun s hs => ?_⟩
    dsimp only at hs
    rcases List.mem_cons.1 hs with rfl | hs
    · have hds : outDs e = (P.drop n).take m := by
        unfold outDs
        rw [hm, hat, h.out, List.drop_drop]
        congr 2
        · omega
      have hdl : (outDs e).length = m := by rw [hds, List.length_take, List.length_drop]; omega
      refine .inr (.inr ⟨n, r, .inl ⟨?_, ?_⟩, (h.opn h4).2.1, ?_, ?_, Nat.le_refl _⟩)
      · show flE e 0 = 2
        unfold flE
        rw [if_pos (by omega)]
        rfl
      · show n + (outDs e).length ≤ t'
        omega
      · show outDs e = (P.drop n).take (outDs e).length
        rw [hdl, hds]
      · show ackE e = _
        unfold ackE
        rw [if_pos (by omega)]
        exact h.rcv (.inr h4)
    · exact h7 s hs
theorem EndI.fin_ (hP : P.length ≤ 100000) {x : EndD × List SegD} (h : EndI iss iss' P P' G u n t r x.1) (h4 : x.1.st = 4) (hx : ∀ s ∈ x.2, SegI iss' iss P t r s) :
    ∃ n' t', EndI iss iss' P P' G u n' t' r (outFin x).1 ∧ t ≤ t' ∧ (outFin x).1.st = 4 ∧ (outFin x).1.shut = x.1.shut ∧ ∀ s ∈ (outFin x).2, SegI iss' iss P t' r s := by
  unfold outFin
  split
  · rename_i hc
    obtain ⟨hsh, hat⟩ := hc
    rw [h.at_ h4 hP, h.out, List.length_drop] at hat
    have hl := h.len
    have hun := h.un
    have hnt := h.nt
    rw [if_pos hsh] at hl
    have hnP : n = P.length := by omega
    have h1 := h.say_ h4 hP (f := 4) (m := 0) (j := 1) (by rw [span_4]; rfl) (by rw [if_pos hsh]; omega)
    have ht : max t (n + 1) = P.length + 1 := by omega
    rw [ht] at h1
    refine ⟨n + 1, P.length + 1, h1, hl, h4, rfl, fun s hs => ?_⟩
    rcases List.mem_append.1 hs with hs | hs
    · exact (hx s hs).mono (List.prefix_refl _) hl (Nat.le_refl _) (fun _ => rfl) hl (Nat.le_refl _)
    · obtain rfl := List.mem_singleton.1 hs
      refine .inr (.inr ⟨n, r, .inr ⟨?_, rfl, hnP, rfl⟩, (h.opn h4).2.1, rfl, ?_, Nat.le_refl _⟩)
      · show flE x.1 4 = 6
        unfold flE
        rw [if_pos (by omega)]
        rfl
      · show ackE x.1 = _
        unfold ackE
        rw [if_pos (by omega)]
        exact h.rcv (.inr h4)
  · exact ⟨n, t, h, Nat.le_refl _, h4, rfl, hx⟩
theorem EndI.due_ (hP : P.length ≤ 100000) {x : EndD × List SegD} (h : EndI iss iss' P P' G u n t r x.1) (h4 : x.1.st = 4) (hx : ∀ s ∈ x.2, SegI iss' iss P t r s) :
    EndI iss iss' P P' G u n t r (outDue x).1 ∧ (outDue x).1.st = 4 ∧ (outDue x).1.shut = x.1.shut ∧ ∀ s ∈ (outDue x).2, SegI iss' iss P t r s := by
  unfold outDue
  split
  · have hl := h.len
    have hnt := h.nt
    have h1 := h.say_ h4 hP (f := 0) (m := 0) (j := 0) (by rw [span_0]; rfl) (by omega)
    have ht : max t (n + 0) = t := by omega
    rw [ht] at h1
    refine ⟨h1, h4, rfl, fun s hs => ?_⟩
    rcases List.mem_append.1 hs with hs | hs
    · exact hx s hs
    · obtain rfl := List.mem_singleton.1 hs
      refine .inr (.inr ⟨n, r, .inl ⟨?_, ?_⟩, (h.opn h4).2.1, rfl, ?_, Nat.le_refl _⟩)
      · show flE x.1 0 = 2
        unfold flE
        rw [if_pos (by omega)]
        rfl
      · show n + 0 ≤ t
        omega
      · show ackE x.1 = _
        unfold ackE
        rw [if_pos (by omega)]
        exact h.rcv (.inr h4)
  · exact ⟨h, h4, rfl, hx⟩
theorem EndI.out_ (hP : P.length ≤ 100000) (h : EndI iss iss' P P' G u n t r e) :
    ∃ n' t', EndI iss iss' P P' G u n' t' r (outE e).1 ∧ t ≤ t' ∧ (outE e).1.shut = e.shut ∧ ∀ s ∈ (outE e).2, SegI iss' iss P t' r s := by
  unfold outE
  split
  · rename_i hc
    obtain ⟨hst, hnx⟩ := hc
    obtain ⟨p1, p2, p3, p4, p5⟩ := h.pre (.inr hst)
    have hx : nxtE e 1 0 = sq iss 1 := by
      unfold nxtE
      rw [span_1, hnx, p3]
      rfl
    refine ⟨n, t, ⟨h.len, h.un, h.nt, h.first, h.out, h.got, h.fin, fun _ => ⟨p1, p2, p3, .inr hx, ?_⟩, fun h4 => absurd (show e.st = 4 from h4) (by omega), h.rcv, h.st⟩, Nat.le_refl _, rfl, fun s hs => ?_⟩
    · show (if beforeB e.top (nxtE e 1 0) = true then nxtE e 1 0 else e.top) = iss ∨ (if beforeB e.top (nxtE e 1 0) = true then nxtE e 1 0 else e.top) = sq iss 1
      split
      · exact .inr hx
      · exact p5
    · obtain rfl := List.mem_singleton.1 hs
      by_cases h3 : e.st = 3
      · refine .inr (.inl ⟨?_, ?_, ?_, rfl⟩)
        · show flE e 1 = 3
          unfold flE
          rw [if_pos (by omega)]
          rfl
        · show e.nxt = iss
          rw [hnx, p3]
        · show ackE e = _
          unfold ackE
          rw [if_pos (by omega), h.rcv (.inl h3), p2]
          unfold sq
          omega
      · refine .inl ⟨?_, ?_, rfl⟩
        · show flE e 1 = 1
          unfold flE
          rw [if_neg (by omega)]
        · show e.nxt = iss
          rw [hnx, p3]
  split
  · rename_i h4
    obtain ⟨n1, t1, h1, h2, h3, h5, h6⟩ := h.loop_ hP 64 h4
    obtain ⟨n2, t2, g1, g2, g3, g5, g6⟩ := EndI.fin_ hP h1 h3 h6
    obtain ⟨k1, k3, k5, k6⟩ := EndI.due_ hP g1 g3 g6
    exact ⟨n2, t2, k1, by omega, by rw [k5, g5, h5], k6⟩
  · exact ⟨n, t, h, Nat.le_refl _, rfl, fun s hs => by simp at hs⟩
theorem EndI.tick_ (h : EndI iss iss' P P' G u n t r e) : ∃ n', EndI iss iss' P P' G u n' t r (tickE e) ∧ (tickE e).shut = e.shut := by
  unfold tickE
  split
  · exact ⟨n, h, rfl⟩
  rename_i hb
  split
  · exact ⟨n, ⟨h.len, h.un, h.nt, h.first, h.out, h.got, h.fin, h.pre, h.opn, h.rcv, h.st⟩, rfl⟩
  split
  · exact ⟨n, ⟨h.len, h.un, h.nt, h.first, h.out, h.got, h.fin, fun h1 => absurd h1 (by show ¬ ((5 : Int) = 1 ∨ (5 : Int) = 2 ∨ (5 : Int) = 3); omega), fun h1 => absurd h1 (by show ¬ (5 : Int) = 4; omega), fun h1 => absurd h1 (by show ¬ ((5 : Int) = 3 ∨ (5 : Int) = 4); omega), ⟨by show (1 : Int) ≤ 5; omega, by show (5 : Int) ≤ 5; omega⟩⟩, rfl⟩
  · refine ⟨u, ⟨h.len, Nat.le_refl _, Nat.le_trans h.un h.nt, h.first, h.out, h.got, h.fin, fun h1 => ?_, fun h1 => ?_, h.rcv, h.st⟩, rfl⟩
    · obtain ⟨p1, p2, p3, p4, p5⟩ := h.pre h1
      exact ⟨p1, p2, p3, .inl p3, p5⟩
    · obtain ⟨e1, e2, e3⟩ := h.opn h1
      exact ⟨e1, e1, e3⟩
theorem EndI.write_ (h : EndI iss iss' P P' G u n t r e) (ds : List UInt8) : EndI iss iss' (P ++ ds.take (writeE e ds).2.1) P' G u n t r (writeE e ds).1 ∧ (writeE e ds).1.shut = e.shut ∧ (e.shut = true → ds.take (writeE e ds).2.1 = []) := by
  have same : ∀ k : Int, EndI iss iss' (P ++ ds.take ((e, 0, k) : EndD × Nat × Int).2.1) P' G u n t r ((e, 0, k) : EndD × Nat × Int).1 ∧ ((e, 0, k) : EndD × Nat × Int).1.shut = e.shut ∧ (e.shut = true → ds.take ((e, 0, k) : EndD × Nat × Int).2.1 = []) := fun k => by
    refine ⟨?_, rfl, fun _ => rfl⟩
    show EndI iss iss' (P ++ []) P' G u n t r e
    rw [List.append_nil]
    exact h
  unfold writeE
  split
  · exact same _
  split
  · exact same _
  split
  · exact same _
  rename_i h5 hb hw
  have hs : e.shut = false := by
    cases hs : e.shut with
    | false => rfl
    | true => exact absurd (.inr hs) hb
  have hl := h.len
  have hun := h.un
  have hnt := h.nt
  rw [hs] at hl
  simp only [Bool.false_eq_true, if_false] at hl
  refine ⟨⟨?_, h.un, h.nt, ?_, ?_, h.got, h.fin, h.pre, h.opn, h.rcv, h.st⟩, rfl, fun h6 => by rw [hs] at h6; exact absurd h6 (by decide)⟩
  · show t ≤ (P ++ _).length + _
    rw [List.length_append]
    omega
  · show e.first = _
    rw [h.first, List.length_append]
    congr 1
    omega
  · show e.out ++ ds.take (wrN e ds.length) = _
    rw [h.out, List.drop_append_of_le_length (by omega)]
theorem EndI.read_ (h : EndI iss iss' P P' G u n t r e) (k : Nat) : EndI iss iss' P P' (G ++ e.inn.take (readN e k)) u n t r (readTo e k) := by
  refine ⟨h.len, h.un, h.nt, h.first, h.out, ?_, h.fin, h.pre, h.opn, h.rcv, h.st⟩
  show (G ++ e.inn.take (readN e k)) ++ e.inn.drop (readN e k) = _
  rw [List.append_assoc, List.take_append_drop]
  exact h.got
theorem EndI.shut_ (h : EndI iss iss' P P' G u n t r e) : EndI iss iss' P P' G u n t r (shutE e).1 := by
  unfold shutE
  split
  · exact h
  · refine ⟨?_, h.un, h.nt, h.first, h.out, h.got, h.fin, h.pre, h.opn, h.rcv, h.st⟩
    have := h.len
    show t ≤ P.length + (if true = true then 1 else 0)
    rw [if_pos rfl]
    split at this <;> omega
/-- What the other end puts grows. -/
theorem EndI.peer_ (h : EndI iss iss' P P' G u n t r e) {X : List UInt8} (hX : r = P'.length + 1 → X = []) : EndI iss iss' P (P' ++ X) G u n t r e := by
  refine ⟨h.len, h.un, h.nt, h.first, h.out, ?_, ?_, h.pre, h.opn, h.rcv, h.st⟩
  · rw [h.got]
    have hf := h.fin
    split at hf
    · rw [hX hf, List.append_nil]
    · rw [List.take_append_of_le_length hf]
  · have hf := h.fin
    split at hf
    · rename_i h1
      rw [if_pos h1, hX hf, List.append_nil]
      exact hf
    · rename_i h1
      rw [if_neg h1, List.length_append]
      omega
end
end Go.Proofs.Ytacfffegmmdgfaa
