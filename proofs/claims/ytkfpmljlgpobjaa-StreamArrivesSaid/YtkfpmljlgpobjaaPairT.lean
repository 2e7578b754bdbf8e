/- Rounds of a pair, as plain data; how two ends meet. Plain laws. -/
import Derived.Test.YtkfpmljlgpobjaaPairRun
namespace Go.Proofs.Ytkfpmljlgpobjaa
open Go.RowKit
set_option linter.unusedVariables false

structure PairT where
  x0 : EndD
  x1 : EndD
  y0 : List SegD
  y1 : List SegD
  p0 : List UInt8
  p1 : List UInt8
  g0 : List UInt8
  g1 : List UInt8
def toT (d : PairD) : PairT := ⟨d.e 0, d.e 1, d.y 0, d.y 1, d.p 0, d.p 1, d.g 0, d.g 1⟩
def sayT (t : PairT) : PairT := { t with x0 := (outE t.x0).1, x1 := (outE t.x1).1, y0 := t.y0 ++ (outE t.x1).2.take 70, y1 := t.y1 ++ (outE t.x0).2.take 70 }
def comeT (t : PairT) : PairT := { t with x0 := comeL t.x0 t.y0, x1 := comeL t.x1 t.y1, y0 := [], y1 := [] }
def rdE (x : EndD) : EndD := match readErr x 64 with
  | some _ => x
  | none => readTo x 64
def rdG (x : EndD) : List UInt8 := match readErr x 64 with
  | some _ => []
  | none => x.inn.take (readN x 64)
def readT (t : PairT) : PairT := { t with x0 := rdE t.x0, x1 := rdE t.x1, g0 := t.g0 ++ rdG t.x0, g1 := t.g1 ++ rdG t.x1 }
def tickT (t : PairT) : PairT := { t with x0 := tickE t.x0, x1 := tickE t.x1 }
def roundT (t : PairT) : PairT := tickT (readT (comeT (sayT t)))
def roundsT : Nat → PairT → PairT
  | 0, t => t
  | k + 1, t => roundT (roundsT k t)
theorem toT_say (d : PairD) : toT (sayP d) = sayT (toT d) := by simp [toT, sayP, sayI, sayT, upd]
theorem toT_come (d : PairD) : toT (comeP d) = comeT (toT d) := by simp [toT, comeP, comeI, comeT, upd]
theorem toT_read (d : PairD) : toT (readI (readI d 0) 1) = readT (toT d) := by
  have h : ∀ (d : PairD) (i : Nat), readI d i = { d with e := upd d.e i (rdE (d.e i)), g := upd d.g i (d.g i ++ rdG (d.e i)) } := by
    intro d i
    unfold readI rdE rdG
    cases readErr (d.e i) 64 with
    | none => rfl
    | some x =>
      have e1 : upd d.e i (d.e i) = d.e := by funext j; unfold upd; split <;> simp_all
      have e2 : upd d.g i (d.g i ++ []) = d.g := by funext j; unfold upd; split <;> simp_all
      simp only [e1, e2]
  rw [h, h]
  simp [toT, readT, upd]
theorem toT_tick (d : PairD) : toT (tickI (tickI d 0) 1) = tickT (toT d) := by simp [toT, tickI, tickT, upd]
theorem toT_round (d : PairD) : toT (roundP d) = roundT (toT d) := by
  unfold roundP roundT
  rw [toT_tick, toT_read, toT_come, toT_say]
theorem toT_rounds (k : Nat) (d : PairD) : toT (roundsP k d) = roundsT k (toT d) := by
  induction k with
  | zero => rfl
  | succ k ih => rw [roundsP, roundsT, toT_round, ih]

def P1 (a : Int) : Int := (a + 1) % 4294967296
theorem P1_u (a : Int) : U32 (P1 a) := ⟨Int.emod_nonneg _ (by omega), Int.emod_lt_of_pos _ (by omega)⟩
theorem before_P1 {a : Int} (h : U32 a) : beforeB a (P1 a) = true := by
  obtain ⟨h1, h2⟩ := h
  unfold beforeB P1
  rw [decide_eq_true_iff]
  omega
theorem before_self (a : Int) : beforeB a a = false := by simp [beforeB]
theorem nxt0 {a : Int} (h : U32 a) : (a + spanF 0 0) % 4294967296 = a := by
  obtain ⟨h1, h2⟩ := h
  have : spanF 0 0 = 0 := by simp [spanF]
  rw [this]
  omega
theorem ne_P1 {a : Int} (h : U32 a) : ¬ P1 a = a := by
  obtain ⟨h1, h2⟩ := h
  unfold P1
  omega
/-- An end that calls, and has said so. -/
def cal (a wt : Int) : EndD := ⟨2, a, P1 a, P1 a, P1 a, 0, [], [], 0, false, false, false, wt, 0⟩
/-- An end that is called. -/
def cld (a b : Int) : EndD := ⟨3, b, b, b, P1 b, P1 a, [], [], 64, false, false, false, 0, 0⟩
def cls (a b wt : Int) : EndD := ⟨3, b, P1 b, P1 b, P1 b, P1 a, [], [], 64, false, false, false, wt, 0⟩
/-- An open end, nothing to be said. -/
def opn (x y : Int) (due : Bool) : EndD := ⟨4, x, x, x, x, y, [], [], 64, false, false, due, 0, 0⟩
theorem out_beg {a : Int} (h : U32 a) : outE (beginE 2 a) = (cal a 0, [⟨a, 0, 1, 64, []⟩]) := by
  have h1 : sayE (beginE 2 a) 1 0 = cal a 0 := by
    have e : nxtE (beginE 2 a) 1 0 = P1 a := by simp [nxtE, beginE, spanF, P1]
    have e2 : beforeB (beginE 2 a).top (P1 a) = true := before_P1 h
    simp only [sayE, e, e2, if_true]
    rfl
  unfold outE
  rw [if_pos ⟨.inl rfl, rfl⟩, h1]
  rfl
theorem out_lis (b : Int) : outE (beginE 1 b) = (beginE 1 b, []) := by
  unfold outE
  rw [if_neg (by simp [beginE]), if_neg (by simp [beginE])]
theorem come_lis (a b : Int) : comeS (beginE 1 b) ⟨a, 0, 1, 64, []⟩ = cld a b := by
  unfold comeS comeE
  rw [if_neg (by simp [beginE]), if_neg (by simp), if_pos (by rfl), if_pos (by rfl)]
  rfl
theorem rd_none {x : EndD} (h1 : x.st = 2 ∨ x.st = 3 ∨ x.st = 4) (h2 : x.inn = []) (h3 : x.fin = false) : rdE x = x ∧ rdG x = [] := by
  have : readErr x 64 = some 9 := by
    unfold readErr
    rw [if_neg (by omega), if_pos ⟨by omega, h2, h3⟩, if_neg (by omega)]
  unfold rdE rdG
  rw [this]
  exact ⟨rfl, rfl⟩
theorem tick_cal {a : Int} (h : U32 a) : tickE (cal a 0) = cal a 1 := by
  unfold tickE
  rw [if_neg (fun h1 => h1.elim (fun h2 => by simp [begunB, cal] at h2) (fun h2 => ne_P1 h h2.symm)), if_pos (by simp [cal])]
  rfl
theorem tick_eq {x : EndD} (h : x.una = x.nxt) : tickE x = x := by
  unfold tickE
  rw [if_pos (.inr h)]
theorem tick_cls {a b : Int} (h : U32 b) : tickE (cls a b 0) = cls a b 1 := by
  unfold tickE
  rw [if_neg (fun h1 => h1.elim (fun h2 => by simp [begunB, cls] at h2) (fun h2 => ne_P1 h h2.symm)), if_pos (by simp [cls])]
  rfl
theorem out_cal {a : Int} (h : U32 a) (wt : Int) : outE (cal a wt) = (cal a wt, []) := by
  unfold outE
  rw [if_neg (by rintro ⟨_, h1⟩; exact ne_P1 h h1), if_neg (by simp [cal])]
theorem out_cld {a b : Int} (h : U32 b) : outE (cld a b) = (cls a b 0, [⟨b, P1 a, 3, 64, []⟩]) := by
  have h1 : sayE (cld a b) 1 0 = cls a b 0 := by
    have e : nxtE (cld a b) 1 0 = P1 b := by simp [nxtE, cld, spanF, P1]
    have e2 : beforeB (cld a b).top (P1 b) = true := before_P1 h
    simp only [sayE, e, e2, if_true]
    rfl
  unfold outE
  rw [if_pos ⟨.inr rfl, rfl⟩, h1]
  rfl
theorem come_cal (a b : Int) : comeS (cal a 1) ⟨b, P1 a, 3, 64, []⟩ = opn (P1 a) (P1 b) true := by
  unfold comeS comeE
  rw [if_neg (by simp [cal]), if_neg (by simp), if_neg (by simp [cal]), if_pos (by rfl), if_pos ⟨rfl, rfl, rfl⟩]
  rfl
theorem outN_opn (x y : Int) (due : Bool) : outN (opn x y due) ≤ 0 := by
  have : outAt (opn x y due) = 0 := by simp [outAt, opn]
  unfold outN
  rw [this]
  simp only [opn, List.length_nil]
  omega
theorem out_opn {x : Int} (h : U32 x) (y : Int) (due : Bool) : outE (opn x y due) = (opn x y false, if due then [⟨x, y, 2, 64, []⟩] else []) := by
  have h1 : sayE (opn x y due) 0 0 = opn x y false := by
    have e : nxtE (opn x y due) 0 0 = x := nxt0 h
    have e2 : beforeB (opn x y due).top x = false := before_self x
    simp only [sayE, e, e2]
    rfl
  unfold outE
  rw [if_neg (by simp [opn]), if_pos (by rfl)]
  have h2 : outLoop 64 (opn x y due) = (opn x y due, []) := by rw [outLoop, if_pos (outN_opn x y due)]
  rw [h2]
  have h3 : outFin (opn x y due, []) = (opn x y due, []) := by unfold outFin; rw [if_neg (by simp [opn])]
  rw [h3]
  unfold outDue
  cases due with
  | true => rw [if_pos (by rfl)]; simp only [h1]; rfl
  | false => rw [if_neg (by simp [opn])]; rfl
theorem out_cls {a b : Int} (h : U32 b) (wt : Int) : outE (cls a b wt) = (cls a b wt, []) := by
  unfold outE
  rw [if_neg (by rintro ⟨_, h1⟩; exact ne_P1 h h1), if_neg (by simp [cls])]
theorem come_cls (a b : Int) : comeS (cls a b 1) ⟨P1 a, P1 b, 2, 64, []⟩ = opn (P1 b) (P1 a) false := by
  unfold comeS comeE
  rw [if_neg (by simp [cls]), if_neg (by simp), if_neg (by simp [cls]), if_neg (by simp [cls]), if_pos (by rfl), if_neg (by simp), if_pos ⟨rfl, rfl⟩]
  unfold takeE
  rw [if_pos (by simp [spanF])]
  rfl
def begT (a b : Int) : PairT := ⟨beginE 2 a, beginE 1 b, [], [], [], [], [], []⟩
def metT (a b : Int) : PairT := ⟨opn (P1 a) (P1 b) false, opn (P1 b) (P1 a) false, [], [], [], [], [], []⟩
theorem round_1 {a b : Int} (ha : U32 a) : roundT (begT a b) = ⟨cal a 1, cld a b, [], [], [], [], [], []⟩ := by
  simp only [roundT, sayT, begT, out_beg ha, out_lis, comeT, List.nil_append, List.take_nil, List.take_succ_cons, comeL, List.foldl_nil, List.foldl_cons, come_lis, readT]
  rw [(rd_none (x := cal a 0) (.inl rfl) rfl rfl).1, (rd_none (x := cal a 0) (.inl rfl) rfl rfl).2, (rd_none (x := cld a b) (.inr (.inl rfl)) rfl rfl).1, (rd_none (x := cld a b) (.inr (.inl rfl)) rfl rfl).2]
  simp only [tickT, tick_cal ha, tick_eq (x := cld a b) rfl]
theorem round_2 {a b : Int} (ha : U32 a) (hb : U32 b) : roundT ⟨cal a 1, cld a b, [], [], [], [], [], []⟩ = ⟨opn (P1 a) (P1 b) true, cls a b 1, [], [], [], [], [], []⟩ := by
  simp only [roundT, sayT, out_cal ha, out_cld hb, comeT, List.nil_append, List.take_nil, List.take_succ_cons, comeL, List.foldl_nil, List.foldl_cons, come_cal, readT]
  rw [(rd_none (x := opn (P1 a) (P1 b) true) (.inr (.inr rfl)) rfl rfl).1, (rd_none (x := opn (P1 a) (P1 b) true) (.inr (.inr rfl)) rfl rfl).2, (rd_none (x := cls a b 0) (.inr (.inl rfl)) rfl rfl).1, (rd_none (x := cls a b 0) (.inr (.inl rfl)) rfl rfl).2]
  simp only [tickT, tick_eq (x := opn (P1 a) (P1 b) true) rfl, tick_cls hb]
theorem round_3 {a b : Int} (hb : U32 b) : roundT ⟨opn (P1 a) (P1 b) true, cls a b 1, [], [], [], [], [], []⟩ = metT a b := by
  simp only [roundT, sayT, out_opn (P1_u a), out_cls hb, comeT, List.nil_append, List.take_nil, if_true, List.take_succ_cons, comeL, List.foldl_nil, List.foldl_cons, come_cls, readT]
  rw [(rd_none (x := opn (P1 a) (P1 b) false) (.inr (.inr rfl)) rfl rfl).1, (rd_none (x := opn (P1 a) (P1 b) false) (.inr (.inr rfl)) rfl rfl).2, (rd_none (x := opn (P1 b) (P1 a) false) (.inr (.inr rfl)) rfl rfl).1, (rd_none (x := opn (P1 b) (P1 a) false) (.inr (.inr rfl)) rfl rfl).2]
  simp only [tickT, tick_eq (x := opn (P1 a) (P1 b) false) rfl, tick_eq (x := opn (P1 b) (P1 a) false) rfl]
  rfl
theorem round_4 (a b : Int) : roundT (metT a b) = metT a b := by
  simp only [roundT, sayT, metT, out_opn (P1_u a), out_opn (P1_u b), comeT, List.nil_append, List.take_nil, Bool.false_eq_true, if_false, comeL, List.foldl_nil, readT]
  rw [(rd_none (x := opn (P1 a) (P1 b) false) (.inr (.inr rfl)) rfl rfl).1, (rd_none (x := opn (P1 a) (P1 b) false) (.inr (.inr rfl)) rfl rfl).2, (rd_none (x := opn (P1 b) (P1 a) false) (.inr (.inr rfl)) rfl rfl).1, (rd_none (x := opn (P1 b) (P1 a) false) (.inr (.inr rfl)) rfl rfl).2]
  simp only [tickT, tick_eq (x := opn (P1 a) (P1 b) false) rfl, tick_eq (x := opn (P1 b) (P1 a) false) rfl]
theorem rounds_met {a b : Int} (ha : U32 a) (hb : U32 b) : roundsT 4 (begT a b) = metT a b := by
  simp only [roundsT, round_1 ha, round_2 ha hb, round_3 hb, round_4]
theorem met_d {a b : Int} (ha : U32 a) (hb : U32 b) : toT (roundsP 4 (beginP a b)) = metT a b := by
  rw [toT_rounds]
  exact rounds_met ha hb
end Go.Proofs.Ytkfpmljlgpobjaa
