/- How two open ends talk, when nothing is lost, and part. Plain laws. -/
import Derived.Test.YtkfpmljlgpobjaaPairT
namespace Go.Proofs.Ytkfpmljlgpobjaa
open Go.RowKit
set_option linter.unusedVariables false

def plus (x : Int) (n : Nat) : Int := (x + n) % 4294967296
theorem plus_u (x : Int) (n : Nat) : U32 (plus x n) := ⟨Int.emod_nonneg _ (by omega), Int.emod_lt_of_pos _ (by omega)⟩
theorem plus_0 {x : Int} (h : U32 x) : plus x 0 = x := by obtain ⟨h1, h2⟩ := h; unfold plus; omega
theorem plus_plus (x : Int) (m n : Nat) : plus (plus x m) n = plus x (m + n) := by unfold plus; omega
theorem before_plus {x : Int} (h : U32 x) (n : Nat) (hn : n ≤ 1000) : beforeB (plus x n) x = false := by
  obtain ⟨h1, h2⟩ := h
  unfold beforeB plus
  rw [decide_eq_false_iff_not]
  omega
theorem before_plus' {x : Int} (h : U32 x) (n : Nat) (hn : n ≤ 1000) (hp : 0 < n) : beforeB x (plus x n) = true := by
  obtain ⟨h1, h2⟩ := h
  unfold beforeB plus
  rw [decide_eq_true_iff]
  omega
/-- Data that are awaited come to an open end. -/
theorem come_data {e : EndD} (h4 : e.st = 4) (hf : e.fin = false) (ht : beforeB e.top e.una = false) {ds : List UInt8} (hd : ds ≠ []) (hl : e.inn.length + ds.length ≤ 64) :
    comeS e ⟨e.rcv, e.una, 2, 64, ds⟩ = { e with tries := 0, peer := 64, inn := e.inn ++ ds, rcv := plus e.rcv ds.length, due := true } := by
  have hdl : ds.length ≠ 0 := by simpa using hd
  have hsp : spanF 2 ds.length = ds.length := by simp [spanF]
  have ha : answerE e e.una 64 = { e with tries := 0, peer := 64 } := by
    unfold answerE
    rw [if_neg (by rw [ht, before_self]; simp), if_pos (by simp [ansM])]
  unfold comeS comeE
  rw [if_neg (by omega), if_neg (by simp), if_neg (by omega), if_neg (by omega), if_neg (by omega), if_neg (by simp)]
  dsimp only
  rw [ha]
  unfold takeE
  rw [hsp, if_neg (by omega), if_neg (by simp [refuseB, hf]; omega)]
  have hde : decide ((2 : Int) / 4 % 2 = 1) = false := by decide
  unfold takeTo plus
  simp only [hsp, hf, hde]
/-- An open end with bytes to be said. -/
def full (X Y : Int) (x : List UInt8) : EndD := ⟨4, X, X, X, X, Y, x, [], 64, false, false, false, 0, 0⟩
def sent (X Y : Int) (x : List UInt8) : EndD := ⟨4, X, plus X x.length, plus X x.length, X, Y, x, [], 64, false, false, false, 0, 0⟩
def bits2 (X Y : Int) (x : List UInt8) : List SegD :=
  if x = [] then [] else if x.length ≤ 32 then [⟨X, Y, 2, 64, x⟩] else [⟨X, Y, 2, 64, x.take 32⟩, ⟨plus X 32, Y, 2, 64, x.drop 32⟩]
/-- After so many bytes have been said. -/
def part (X Y : Int) (x : List UInt8) (n : Nat) : EndD := ⟨4, X, plus X n, plus X n, X, Y, x, [], 64, false, false, false, 0, 0⟩
theorem part_at {X : Int} (h : U32 X) (Y : Int) (x : List UInt8) {n : Nat} (hn : n ≤ 64) : outAt (part X Y x n) = n := by
  obtain ⟨h1, h2⟩ := h
  unfold outAt part plus
  dsimp only
  omega
theorem part_say {X : Int} (h : U32 X) (Y : Int) (x : List UInt8) {n m : Nat} (hn : n + m ≤ 64) (hm : 0 < m) : sayE (part X Y x n) 0 m = part X Y x (n + m) := by
  have e : nxtE (part X Y x n) 0 m = plus X (n + m) := by
    unfold nxtE part
    dsimp only
    rw [show spanF 0 m = m by simp [spanF], ← plus_plus]
    rfl
  have e2 : beforeB (part X Y x n).top (plus X (n + m)) = true := by
    show beforeB (plus X n) (plus X (n + m)) = true
    rw [← plus_plus]
    exact before_plus' (plus_u _ _) m (by omega) hm
  simp only [sayE, e, e2, if_true]
  rfl
theorem part_N {X : Int} (h : U32 X) (Y : Int) (x : List UInt8) {n : Nat} (hn : n ≤ x.length) (hx : x.length ≤ 64) : outN (part X Y x n) = min 32 (x.length - n : Nat) := by
  unfold outN
  rw [part_at h Y x (by omega)]
  simp only [part]
  omega
theorem out_full {X : Int} (h : U32 X) (Y : Int) {x : List UInt8} (hx : x.length ≤ 64) : outE (full X Y x) = (sent X Y x, bits2 X Y x) := by
  have h0 : full X Y x = part X Y x 0 := by unfold full part; rw [plus_0 h]
  have hs : sent X Y x = part X Y x x.length := rfl
  have stop : ∀ k, outLoop k (part X Y x x.length) = (part X Y x x.length, []) := by
    intro k
    cases k with
    | zero => rfl
    | succ k => rw [outLoop, if_pos (by rw [part_N h Y x (Nat.le_refl _) hx]; omega)]
  have ds : ∀ n m, n ≤ 64 → outN (part X Y x n) = (m : Nat) → outDs (part X Y x n) = (x.drop n).take m := by
    intro n m hn hm
    unfold outDs
    rw [part_at h Y x hn, hm]
    simp [part]
  have seg : ∀ n d, segOf (part X Y x n) 0 d = ⟨plus X n, Y, 2, 64, d⟩ := fun n d => rfl
  have hloop : outLoop 64 (part X Y x 0) = (part X Y x x.length, bits2 X Y x) := by
    unfold bits2
    by_cases h1 : x = []
    · subst h1
      rw [if_pos rfl]
      exact stop 64
    · have hp : 0 < x.length := List.length_pos_iff.2 h1
      rw [if_neg h1]
      by_cases h2 : x.length ≤ 32
      · have hN : outN (part X Y x 0) = (x.length : Nat) := by rw [part_N h Y x (by omega) hx]; omega
        rw [if_pos h2, outLoop, if_neg (by rw [hN]; omega), hN, part_say h Y x (by omega) hp, Nat.zero_add, stop, ds 0 _ (by omega) hN, seg]
        rw [plus_0 h]
        simp
      · have hN : outN (part X Y x 0) = (32 : Nat) := by rw [part_N h Y x (by omega) hx]; omega
        have hN2 : outN (part X Y x 32) = (x.length - 32 : Nat) := by rw [part_N h Y x (by omega) hx]; omega
        rw [if_neg h2, outLoop, if_neg (by rw [hN]; omega), hN, part_say h Y x (by omega) (by omega), Nat.zero_add, ds 0 _ (by omega) hN, seg, outLoop, if_neg (by rw [hN2]; omega), hN2, part_say h Y x (by omega) (by omega), show 32 + (x.length - 32) = x.length by omega, stop, ds 32 _ (by omega) hN2, seg]
        rw [plus_0 h]
        simp only [List.drop_zero]
        rw [List.take_of_length_le (l := x.drop 32) (by rw [List.length_drop]; omega)]
  unfold outE
  rw [if_neg (by simp [full]), if_pos (by rfl), h0, hloop]
  have h3 : outFin (part X Y x x.length, bits2 X Y x) = (part X Y x x.length, bits2 X Y x) := by unfold outFin; rw [if_neg (by simp [part])]
  rw [h3]
  unfold outDue
  rw [if_neg (by simp [part])]
  rfl
/-- The end that has said x, and to which y came. -/
def heard (X Y : Int) (x y : List UInt8) : EndD := ⟨4, X, plus X x.length, plus X x.length, X, plus Y y.length, x, y, 64, false, false, decide (y ≠ []), 0, 0⟩
theorem come_full {X Y : Int} (hX : U32 X) (hY : U32 Y) {x y : List UInt8} (hx : x.length ≤ 64) (hy : y.length ≤ 64) : comeL (sent X Y x) (bits2 Y X y) = heard X Y x y := by
  have ht : beforeB (plus X x.length) X = false := before_plus hX _ (by omega)
  unfold bits2
  by_cases h1 : y = []
  · subst h1
    rw [if_pos rfl]
    unfold sent heard
    simp [comeL, plus_0 hY]
  · rw [if_neg h1]
    have hp : 0 < y.length := List.length_pos_iff.2 h1
    by_cases h2 : y.length ≤ 32
    · rw [if_pos h2]
      show comeS (sent X Y x) ⟨Y, X, 2, 64, y⟩ = _
      have := come_data (e := sent X Y x) rfl rfl ht h1 (by simp [sent]; omega)
      rw [show (⟨Y, X, 2, 64, y⟩ : SegD) = ⟨(sent X Y x).rcv, (sent X Y x).una, 2, 64, y⟩ from rfl, this]
      unfold sent heard
      simp [h1]
    · rw [if_neg h2]
      show comeS (comeS (sent X Y x) ⟨Y, X, 2, 64, y.take 32⟩) ⟨plus Y 32, X, 2, 64, y.drop 32⟩ = _
      have hd1 : y.take 32 ≠ [] := by intro h; have := congrArg List.length h; rw [List.length_take] at this; change min 32 y.length = 0 at this; omega
      have hd2 : y.drop 32 ≠ [] := by intro h; have := congrArg List.length h; rw [List.length_drop] at this; change y.length - 32 = 0 at this; omega
      have hl1 : (y.take 32).length = 32 := by rw [List.length_take]; omega
      have hl2 : (y.drop 32).length = y.length - 32 := by rw [List.length_drop]
      have s1 := come_data (e := sent X Y x) rfl rfl ht hd1 (by rw [hl1]; simp [sent])
      rw [show (⟨Y, X, 2, 64, y.take 32⟩ : SegD) = ⟨(sent X Y x).rcv, (sent X Y x).una, 2, 64, y.take 32⟩ from rfl, s1, hl1]
      have s2 := come_data (e := { sent X Y x with tries := 0, peer := 64, inn := (sent X Y x).inn ++ y.take 32, rcv := plus (sent X Y x).rcv 32, due := true }) rfl rfl ht hd2 (by rw [hl2]; show ((sent X Y x).inn ++ y.take 32).length + (y.length - 32) ≤ 64; rw [List.length_append, hl1]; show 0 + 32 + (y.length - 32) ≤ 64; omega)
      rw [show (⟨plus Y 32, X, 2, 64, y.drop 32⟩ : SegD) = ⟨({ sent X Y x with tries := 0, peer := 64, inn := (sent X Y x).inn ++ y.take 32, rcv := plus (sent X Y x).rcv 32, due := true } : EndD).rcv, ({ sent X Y x with tries := 0, peer := 64, inn := (sent X Y x).inn ++ y.take 32, rcv := plus (sent X Y x).rcv 32, due := true } : EndD).una, 2, 64, y.drop 32⟩ from rfl, s2, hl2]
      unfold sent heard
      simp [h1, plus_plus, show 32 + (y.length - 32) = y.length by omega]
def rested (X Y : Int) (x y : List UInt8) (wt : Int) : EndD := ⟨4, X, plus X x.length, plus X x.length, X, plus Y y.length, x, [], 64, false, false, decide (y ≠ []), wt, 0⟩
theorem read_heard (X Y : Int) (x : List UInt8) {y : List UInt8} (hy : y.length ≤ 64) : rdE (heard X Y x y) = rested X Y x y 0 ∧ rdG (heard X Y x y) = y := by
  by_cases h1 : y = []
  · subst h1
    obtain ⟨a1, a2⟩ := rd_none (x := heard X Y x []) (.inr (.inr rfl)) rfl rfl
    exact ⟨a1, a2⟩
  · have he : readErr (heard X Y x y) 64 = none := by
      unfold readErr
      rw [if_neg (by simp [heard]), if_neg (by simp [heard, h1])]
    have hn : readN (heard X Y x y) 64 = y.length := by unfold readN heard; dsimp only; omega
    have hp : 0 < y.length := List.length_pos_iff.2 h1
    unfold rdE rdG
    rw [he]
    dsimp only
    rw [hn]
    refine ⟨?_, by unfold heard; simp⟩
    unfold readTo
    rw [hn]
    unfold heard rested
    simp [h1]
theorem tick_rested {X : Int} (hX : U32 X) (Y : Int) {x : List UInt8} (hx : x.length ≤ 64) (y : List UInt8) : tickE (rested X Y x y 0) = rested X Y x y (if x = [] then 0 else 1) := by
  by_cases h1 : x = []
  · subst h1
    rw [if_pos rfl]
    exact tick_eq (by unfold rested; exact (plus_0 hX).symm)
  · rw [if_neg h1]
    have hp : 0 < x.length := List.length_pos_iff.2 h1
    unfold tickE
    rw [if_neg (fun h2 => h2.elim (fun h3 => by simp [begunB, rested] at h3) (fun h3 => by
      obtain ⟨a1, a2⟩ := hX
      have : X = plus X x.length := h3
      unfold plus at this
      omega)), if_pos (by simp [rested])]
    rfl
def ackd (X Y : Int) (x y : List UInt8) (wt : Int) : EndD := { rested X Y x y wt with due := false }
theorem out_rested {X : Int} (hX : U32 X) (Y : Int) {x : List UInt8} (hx : x.length ≤ 64) (y : List UInt8) (wt : Int) : outE (rested X Y x y wt) = (ackd X Y x y wt, if y = [] then [] else [⟨plus X x.length, plus Y y.length, 2, 64, []⟩]) := by
  have hat : outAt (rested X Y x y wt) = x.length := by
    obtain ⟨h1, h2⟩ := hX
    unfold outAt rested plus
    dsimp only
    omega
  have hN : outN (rested X Y x y wt) ≤ 0 := by
    unfold outN
    rw [hat]
    simp only [rested]
    omega
  have h1 : sayE (rested X Y x y wt) 0 0 = ackd X Y x y wt := by
    have e : nxtE (rested X Y x y wt) 0 0 = plus X x.length := nxt0 (plus_u _ _)
    have e2 : beforeB (rested X Y x y wt).top (plus X x.length) = false := before_self _
    simp only [sayE, e, e2]
    rfl
  unfold outE
  rw [if_neg (by simp [rested]), if_pos (by rfl), outLoop, if_pos hN]
  have h3 : outFin (rested X Y x y wt, []) = (rested X Y x y wt, []) := by unfold outFin; rw [if_neg (by simp [rested])]
  rw [h3]
  unfold outDue
  by_cases hy : y = []
  · rw [if_neg (by simp [rested, hy]), if_pos hy]
    unfold ackd rested
    simp [hy]
  · rw [if_pos (by simp [rested, hy]), if_neg hy]
    dsimp only
    rw [h1]
    rfl
theorem come_ackd {X Y : Int} (hX : U32 X) {x y : List UInt8} (hx : x.length ≤ 64) : comeL (ackd X Y x y (if x = [] then 0 else 1)) (if x = [] then [] else [⟨plus Y y.length, plus X x.length, 2, 64, []⟩]) = opn (plus X x.length) (plus Y y.length) false := by
  by_cases h1 : x = []
  · subst h1
    rw [if_pos rfl, if_pos rfl]
    unfold comeL ackd rested opn
    simp [plus_0 hX]
  · have hp : 0 < x.length := List.length_pos_iff.2 h1
    rw [if_neg h1, if_neg h1]
    show comeS (ackd X Y x y 1) ⟨plus Y y.length, plus X x.length, 2, 64, []⟩ = _
    have hM : ansM (ackd X Y x y 1) (plus X x.length) = x.length := by
      obtain ⟨a1, a2⟩ := hX
      unfold ansM ackd rested plus
      dsimp only
      omega
    have hK : ansK (ackd X Y x y 1) (plus X x.length) = x.length := by unfold ansK; rw [hM]; unfold ackd rested; simp
    have hfi : (X + (x.length : Int)) % 4294967296 = plus X x.length := rfl
    have ha : answerE (ackd X Y x y 1) (plus X x.length) 64 = opn (plus X x.length) (plus Y y.length) false := by
      unfold answerE
      rw [if_neg (by
        rintro (h2 | h2)
        · have : beforeB (plus X x.length) (plus X x.length) = true := h2
          rw [before_self] at this; cases this
        · have : beforeB (plus X x.length) X = true := h2
          rw [before_plus hX _ (by omega)] at this; cases this), if_neg (by rw [hM]; omega)]
      unfold ansTo
      rw [hK]
      unfold ackd rested opn
      dsimp only
      rw [before_self, hfi]
      simp
    unfold comeS comeE
    rw [if_neg (by simp [ackd, rested]), if_neg (by simp), if_neg (by simp [ackd, rested]), if_neg (by simp [ackd, rested]), if_neg (by simp [ackd, rested]), if_neg (by simp)]
    dsimp only
    rw [ha]
    unfold takeE
    rw [if_pos (by simp [spanF])]
theorem talk_1 {X Y : Int} (hX : U32 X) (hY : U32 Y) {x y : List UInt8} (hx : x.length ≤ 64) (hy : y.length ≤ 64) (p0 p1 g0 g1 : List UInt8) :
    roundT ⟨full X Y x, full Y X y, [], [], p0, p1, g0, g1⟩ = ⟨rested X Y x y (if x = [] then 0 else 1), rested Y X y x (if y = [] then 0 else 1), [], [], p0, p1, g0 ++ y, g1 ++ x⟩ := by
  have b70 : ∀ (X Y : Int) (x : List UInt8), (bits2 X Y x).take 70 = bits2 X Y x := by
    intro X Y x
    refine List.take_of_length_le ?_
    unfold bits2
    by_cases a : x = []
    · simp [a]
    · by_cases b : x.length ≤ 32 <;> simp [a, b]
  simp only [roundT, sayT, out_full hX Y hx, out_full hY X hy, comeT, List.nil_append, b70, come_full hX hY hx hy, come_full hY hX hy hx, readT]
  rw [(read_heard X Y x hy).1, (read_heard X Y x hy).2, (read_heard Y X y hx).1, (read_heard Y X y hx).2]
  simp only [tickT, tick_rested hX Y hx y, tick_rested hY X hy x]
theorem talk_2 {X Y : Int} (hX : U32 X) (hY : U32 Y) {x y : List UInt8} (hx : x.length ≤ 64) (hy : y.length ≤ 64) (p0 p1 g0 g1 : List UInt8) :
    roundT ⟨rested X Y x y (if x = [] then 0 else 1), rested Y X y x (if y = [] then 0 else 1), [], [], p0, p1, g0, g1⟩ = ⟨opn (plus X x.length) (plus Y y.length) false, opn (plus Y y.length) (plus X x.length) false, [], [], p0, p1, g0, g1⟩ := by
  have t70 : ∀ (x : List UInt8) (s : SegD), (if x = [] then [] else [s]).take 70 = if x = [] then [] else [s] := fun x s => by split <;> simp
  simp only [roundT, sayT, out_rested hX Y hx y, out_rested hY X hy x, comeT, List.nil_append, t70, come_ackd hX hx, come_ackd hY hy, readT]
  rw [(rd_none (x := opn (plus X x.length) (plus Y y.length) false) (.inr (.inr rfl)) rfl rfl).1, (rd_none (x := opn (plus X x.length) (plus Y y.length) false) (.inr (.inr rfl)) rfl rfl).2, (rd_none (x := opn (plus Y y.length) (plus X x.length) false) (.inr (.inr rfl)) rfl rfl).1, (rd_none (x := opn (plus Y y.length) (plus X x.length) false) (.inr (.inr rfl)) rfl rfl).2]
  simp only [tickT, tick_eq (x := opn (plus X x.length) (plus Y y.length) false) rfl, tick_eq (x := opn (plus Y y.length) (plus X x.length) false) rfl, List.append_nil]
theorem idle {X Y : Int} (hX : U32 X) (hY : U32 Y) (p0 p1 g0 g1 : List UInt8) (k : Nat) : roundsT k ⟨opn X Y false, opn Y X false, [], [], p0, p1, g0, g1⟩ = ⟨opn X Y false, opn Y X false, [], [], p0, p1, g0, g1⟩ := by
  induction k with
  | zero => rfl
  | succ k ih =>
    rw [roundsT, ih]
    simp only [roundT, sayT, out_opn hX, out_opn hY, comeT, List.nil_append, List.take_nil, Bool.false_eq_true, if_false, comeL, List.foldl_nil, readT]
    rw [(rd_none (x := opn X Y false) (.inr (.inr rfl)) rfl rfl).1, (rd_none (x := opn X Y false) (.inr (.inr rfl)) rfl rfl).2, (rd_none (x := opn Y X false) (.inr (.inr rfl)) rfl rfl).1, (rd_none (x := opn Y X false) (.inr (.inr rfl)) rfl rfl).2]
    simp only [tickT, tick_eq (x := opn X Y false) rfl, tick_eq (x := opn Y X false) rfl, List.append_nil]
theorem roundsT_add (m n : Nat) (t : PairT) : roundsT (m + n) t = roundsT m (roundsT n t) := by
  induction m with
  | zero => rw [Nat.zero_add]; rfl
  | succ m ih => rw [Nat.succ_add, roundsT, roundsT, ih]
theorem talked {X Y : Int} (hX : U32 X) (hY : U32 Y) {x y : List UInt8} (hx : x.length ≤ 64) (hy : y.length ≤ 64) (p0 p1 g0 g1 : List UInt8) :
    roundsT 12 ⟨full X Y x, full Y X y, [], [], p0, p1, g0, g1⟩ = ⟨opn (plus X x.length) (plus Y y.length) false, opn (plus Y y.length) (plus X x.length) false, [], [], p0, p1, g0 ++ y, g1 ++ x⟩ := by
  rw [show 12 = 10 + 2 from rfl, roundsT_add]
  have h2 : roundsT 2 ⟨full X Y x, full Y X y, [], [], p0, p1, g0, g1⟩ = ⟨opn (plus X x.length) (plus Y y.length) false, opn (plus Y y.length) (plus X x.length) false, [], [], p0, p1, g0 ++ y, g1 ++ x⟩ := by
    simp only [roundsT, talk_1 hX hY hx hy, talk_2 hX hY hx hy]
  rw [h2, idle (plus_u _ _) (plus_u _ _)]
end Go.Proofs.Ytkfpmljlgpobjaa
