/- Plain facts on segments as lists of bytes: the sum, the encoding, the decoding. No program in sight. -/
import GoSem.Core.Value
namespace Go.Proofs.Ytacfffegmmdgfaa.Sg

/-- One step of the sum at place i. -/
def sumStep (n i c : Nat) : Nat := (n + (if i % 2 = 0 then c * 256 else c)) % 65536 + (n + (if i % 2 = 0 then c * 256 else c)) / 65536
/-- The sum over the first k bytes. -/
def sumTo (bs : List UInt8) : Nat → Nat
  | 0 => 0
  | k + 1 => sumStep (sumTo bs k) k (bs.getD k 0).toNat
/-- The weighted sum of the first k bytes. -/
def wtTo (bs : List UInt8) : Nat → Nat
  | 0 => 0
  | k + 1 => wtTo bs k + (if k % 2 = 0 then (bs.getD k 0).toNat * 256 else (bs.getD k 0).toNat)

theorem sumTo_le (bs : List UInt8) (k : Nat) : sumTo bs k ≤ 65535 := by
  induction k with
  | zero => simp [sumTo]
  | succ k ih =>
    have hc := (bs.getD k 0).toNat_lt
    simp only [sumTo, sumStep]
    split <;> omega
theorem sumTo_mod (bs : List UInt8) (k : Nat) : sumTo bs k % 65535 = wtTo bs k % 65535 := by
  induction k with
  | zero => simp [sumTo, wtTo]
  | succ k ih =>
    have hc := (bs.getD k 0).toNat_lt
    simp only [sumTo, sumStep, wtTo]
    split <;> omega
theorem wtTo_congr (a b : List UInt8) (k : Nat) (h : ∀ j, j < k → a.getD j 0 = b.getD j 0) : wtTo a k = wtTo b k := by
  induction k with
  | zero => rfl
  | succ k ih => simp only [wtTo]; rw [ih (fun j hj => h j (by omega)), h k (by omega)]
theorem sumTo_congr (a b : List UInt8) (k : Nat) (h : ∀ j, j < k → a.getD j 0 = b.getD j 0) : sumTo a k = sumTo b k := by
  induction k with
  | zero => rfl
  | succ k ih => simp only [sumTo]; rw [ih (fun j hj => h j (by omega)), h k (by omega)]
/-- One byte is another one: the sum is another one. -/
theorem sumTo_ne (a b : List UInt8) (k i : Nat) (hi : i < k) (h : ∀ j, j < k → j ≠ i → a.getD j 0 = b.getD j 0) (hne : a.getD i 0 ≠ b.getD i 0) : sumTo a k ≠ sumTo b k := by
  have key : ∀ m, i < m → m ≤ k → (wtTo a m : Int) - wtTo b m = (if i % 2 = 0 then 256 else 1) * (((a.getD i 0).toNat : Int) - (b.getD i 0).toNat) := by
    intro m
    induction m with
    | zero => intro h; omega
    | succ m ih =>
      intro him hmk
      by_cases e : m = i
      · subst e
        have hw := wtTo_congr a b m (fun j hj => h j (by omega) (by omega))
        simp only [wtTo, hw]
        split <;> omega
      · have h1 := ih (by omega) (by omega)
        have h2 := h m (by omega) e
        simp only [wtTo, h2]
        omega
  have h1 := key k hi (Nat.le_refl _)
  have h2 := sumTo_mod a k
  have h3 := sumTo_mod b k
  have ha := (a.getD i 0).toNat_lt
  have hb := (b.getD i 0).toNat_lt
  have hn : (a.getD i 0).toNat ≠ (b.getD i 0).toNat := fun e => hne (UInt8.toNat_inj.1 e)
  intro e
  rw [e] at h2
  generalize (a.getD i 0).toNat = x at *
  generalize (b.getD i 0).toNat = y at *
  split at h1 <;> omega

/-- Four bytes of a word, the highest one first. -/
def four (n : Nat) : List UInt8 := [UInt8.ofNat (n / 16777216), UInt8.ofNat (n / 65536), UInt8.ofNat (n / 256), UInt8.ofNat n]
def word (bs : List UInt8) (i : Nat) : Nat := (bs.getD i 0).toNat * 16777216 + (bs.getD (i + 1) 0).toNat * 65536 + (bs.getD (i + 2) 0).toNat * 256 + (bs.getD (i + 3) 0).toNat

/-- A segment. -/
structure SegD where
  seq : Nat
  ack : Nat
  fl : Nat
  wn : Nat
  data : List UInt8
structure SegD.Ok (s : SegD) : Prop where
  seq : s.seq ≤ 4294967295
  ack : s.ack ≤ 4294967295
  fl : s.fl ≤ 15
  wn : s.wn ≤ 255
  data : s.data.length ≤ 32

/-- The bytes ahead of the sum. -/
def raw (s : SegD) : List UInt8 := four s.seq ++ four s.ack ++ [UInt8.ofNat s.fl, UInt8.ofNat s.wn, UInt8.ofNat s.data.length, 0, 0, 0] ++ s.data
/-- What stands for the sum of bytes. -/
def hi (bs : List UInt8) : UInt8 := UInt8.ofNat ((65535 - sumTo bs bs.length) / 256)
def lo (bs : List UInt8) : UInt8 := UInt8.ofNat (65535 - sumTo bs bs.length)
def enc (s : SegD) : List UInt8 := ((raw s).set 12 (hi (raw s))).set 13 (lo (raw s))
/-- Bytes without their sum. -/
def plainB (bs : List UInt8) : List UInt8 := (bs.set 12 0).set 13 0

/-- What Decode answers for bytes. -/
def decErr (b : List UInt8) : Nat :=
  if b.length < 14 ∨ b.length < 14 + (b.getD 10 0).toNat then 21
  else if 14 + (b.getD 10 0).toNat < b.length ∨ b.getD 11 0 ≠ 0 then 3
  else if b.getD 12 0 ≠ hi (plainB b) ∨ b.getD 13 0 ≠ lo (plainB b) then 20
  else if 15 < (b.getD 8 0).toNat then 1
  else if 32 < b.length - 14 then 2
  else 0
def decSeg (b : List UInt8) : SegD := { seq := word b 0, ack := word b 4, fl := (b.getD 8 0).toNat, wn := (b.getD 9 0).toNat, data := b.drop 14 }

theorem raw_length (s : SegD) : (raw s).length = 14 + s.data.length := by simp [raw, four]; omega
theorem enc_length (s : SegD) : (enc s).length = 14 + s.data.length := by simp [enc, raw_length]
theorem plain_enc (s : SegD) : plainB (enc s) = raw s := by
  obtain ⟨q, a, f, n, d⟩ := s
  simp [plainB, enc, raw, four]
theorem word_four (n : Nat) (h : n ≤ 4294967295) (r : List UInt8) : word (four n ++ r) 0 = n := by
  simp [word, four]
  omega

theorem dec_enc (s : SegD) (h : s.Ok) : decErr (enc s) = 0 ∧ decSeg (enc s) = s := by
  have hl := enc_length s
  have hp := plain_enc s
  have hd := h.data
  have hq := h.seq
  have ha := h.ack
  have hf := h.fl
  have hw := h.wn
  have e8 : (enc s).getD 8 0 = UInt8.ofNat s.fl := by simp [enc, raw, four]
  have e9 : (enc s).getD 9 0 = UInt8.ofNat s.wn := by simp [enc, raw, four]
  have e10 : (enc s).getD 10 0 = UInt8.ofNat s.data.length := by simp [enc, raw, four]
  have e11 : (enc s).getD 11 0 = 0 := by simp [enc, raw, four]
  have e12 : (enc s).getD 12 0 = hi (raw s) := by simp [enc, raw, four]
  have e13 : (enc s).getD 13 0 = lo (raw s) := by simp [enc, raw, four]
  have n8 : (UInt8.ofNat s.fl).toNat = s.fl := by simp; omega
  have n9 : (UInt8.ofNat s.wn).toNat = s.wn := by simp; omega
  have n10 : (UInt8.ofNat s.data.length).toNat = s.data.length := by simp; omega
  constructor
  · simp only [decErr, hp, e8, e10, e11, e12, e13, n8, n10, hl]
    rw [if_neg (by omega), if_neg (by simp), if_neg (by simp), if_neg (by omega), if_neg (by omega)]
  · have d : (enc s).drop 14 = s.data := by simp [enc, raw, four]
    have w0 : word (enc s) 0 = s.seq := by
      simp [word, enc, raw, four]
      omega
    have w4 : word (enc s) 4 = s.ack := by
      simp [word, enc, raw, four]
      omega
    simp only [decSeg, e8, e9, n8, n9, d, w0, w4]

theorem enc_dec (b : List UInt8) (h : decErr b = 0) : (decSeg b).Ok ∧ enc (decSeg b) = b := by
  unfold decErr at h
  split at h
  · cases h
  rename_i h1
  split at h
  · cases h
  rename_i h2
  split at h
  · cases h
  rename_i h3
  split at h
  · cases h
  rename_i h4
  split at h
  · cases h
  rename_i h5
  simp only [not_or, Nat.not_lt, Decidable.not_not] at h1 h2 h3 h4 h5
  match b, h1.1 with
  | b0 :: b1 :: b2 :: b3 :: b4 :: b5 :: b6 :: b7 :: b8 :: b9 :: b10 :: b11 :: b12 :: b13 :: d, _ =>
    have q0 := b0.toNat_lt; have q1 := b1.toNat_lt; have q2 := b2.toNat_lt; have q3 := b3.toNat_lt
    have q4 := b4.toNat_lt; have q5 := b5.toNat_lt; have q6 := b6.toNat_lt; have q7 := b7.toNat_lt
    have q9 := b9.toNat_lt
    simp [plainB] at h1 h2 h3 h4 h5
    refine ⟨⟨?_, ?_, ?_, ?_, ?_⟩, ?_⟩
    · simp [decSeg, word]; omega
    · simp [decSeg, word]; omega
    · simpa [decSeg] using h4
    · simp [decSeg]; omega
    · simp [decSeg]; omega
    · have hf : ∀ x0 x1 x2 x3 : UInt8, four (x0.toNat * 16777216 + x1.toNat * 65536 + x2.toNat * 256 + x3.toNat) = [x0, x1, x2, x3] := by
        intro x0 x1 x2 x3
        have y1 := x1.toNat_lt; have y2 := x2.toNat_lt; have y3 := x3.toNat_lt; have y0 := x0.toNat_lt
        simp only [four, List.cons.injEq, and_true]
        refine ⟨?_, ?_, ?_, ?_⟩ <;> (apply UInt8.toNat_inj.1; simp <;> omega)
      have hlen : UInt8.ofNat d.length = b10 := by
        have q10 := b10.toNat_lt
        have hdl : d.length = b10.toNat := by omega
        rw [hdl]; simp
      have hr : raw (decSeg (b0 :: b1 :: b2 :: b3 :: b4 :: b5 :: b6 :: b7 :: b8 :: b9 :: b10 :: b11 :: b12 :: b13 :: d)) = b0 :: b1 :: b2 :: b3 :: b4 :: b5 :: b6 :: b7 :: b8 :: b9 :: b10 :: b11 :: 0 :: 0 :: d := by
        simp [raw, decSeg, word, hf, hlen, h2]
      simp [enc, hr, ← h3.1, ← h3.2]

/-- One byte is another one: it is no segment. -/
theorem dec_spoilt (s : SegD) (h : s.Ok) (i : Nat) (hi' : i < (enc s).length) (x : UInt8) (hx : x ≠ (enc s).getD i 0) : decErr ((enc s).set i x) ≠ 0 := by
  intro h0
  have hl := enc_length s
  have hd := h.data
  obtain ⟨h1, h2⟩ := enc_dec _ h0
  have hp := plain_enc s
  have e10 : (enc s).getD 10 0 = UInt8.ofNat s.data.length := by simp [enc, raw, four]
  have e11 : (enc s).getD 11 0 = 0 := by simp [enc, raw, four]
  have e12 : (enc s).getD 12 0 = hi (raw s) := by simp [enc, raw, four]
  have e13 : (enc s).getD 13 0 = lo (raw s) := by simp [enc, raw, four]
  have n10 : (UInt8.ofNat s.data.length).toNat = s.data.length := by simp; omega
  unfold decErr at h0
  split at h0
  · cases h0
  rename_i c1
  split at h0
  · cases h0
  rename_i c2
  split at h0
  · cases h0
  rename_i c3
  clear h0
  simp only [not_or, Nat.not_lt, Decidable.not_not, List.length_set, hl] at c1 c2 c3
  have get : ∀ j, j ≠ i → ((enc s).set i x).getD j 0 = (enc s).getD j 0 := by
    intro j hj
    simp [List.getD_eq_getElem?_getD, Ne.symm hj]
  have geti : ((enc s).set i x).getD i 0 = x := by simp [List.getD_eq_getElem?_getD, hi']
  by_cases i10 : i = 10
  · subst i10
    rw [geti] at c1 c2
    apply hx
    rw [e10]
    apply UInt8.toNat_inj.1
    omega
  by_cases i11 : i = 11
  · subst i11
    rw [geti] at c2
    apply hx
    rw [e11, c2.2]
  rw [get 11 (by omega)] at c2
  by_cases i12 : i = 12
  · subst i12
    have pl : plainB ((enc s).set 12 x) = raw s := by rw [← hp]; simp [plainB]
    rw [geti, pl, ← e12] at c3
    exact hx c3.1
  by_cases i13 : i = 13
  · subst i13
    have pl : plainB ((enc s).set 13 x) = raw s := by rw [← hp]; simp [plainB, List.set_comm]
    rw [geti, pl, ← e13] at c3
    exact hx c3.2
  rw [get 12 (by omega), get 13 (by omega), e12, e13] at c3
  have pl : plainB ((enc s).set i x) = (raw s).set i x := by
    rw [← hp]
    simp only [plainB]
    rw [List.set_comm _ _ (show i ≠ 12 from i12), List.set_comm _ _ (show i ≠ 13 from i13)]
  rw [pl] at c3
  have hsl : ((raw s).set i x).length = (raw s).length := by simp
  have ne : sumTo ((raw s).set i x) (raw s).length ≠ sumTo (raw s) (raw s).length := by
    apply sumTo_ne _ _ _ i (by rw [raw_length]; omega)
    · intro j _ hj
      simp [List.getD_eq_getElem?_getD, Ne.symm hj]
    · have e1 : ((raw s).set i x).getD i 0 = x := by
        have : i < (raw s).length := by rw [raw_length]; omega
        simp [List.getD_eq_getElem?_getD, this]
      have e2 : (raw s).getD i 0 = (enc s).getD i 0 := by
        rw [← hp]
        simp [plainB, List.getD_eq_getElem?_getD, Ne.symm i12, Ne.symm i13]
      rw [e1, e2]
      exact hx
  have l1 := sumTo_le ((raw s).set i x) (raw s).length
  have l2 := sumTo_le (raw s) (raw s).length
  simp only [hi, lo, hsl] at c3
  have g1 := congrArg UInt8.toNat c3.1
  have g2 := congrArg UInt8.toNat c3.2
  simp at g1 g2
  generalize sumTo ((raw s).set i x) (raw s).length = p at *
  generalize sumTo (raw s) (raw s).length = q at *
  omega

theorem dec_short (s : SegD) (h : s.Ok) (k : Nat) (hk : k < (enc s).length) : decErr ((enc s).take k) = 21 := by
  have hl := enc_length s
  have hd := h.data
  have e10 : (enc s).getD 10 0 = UInt8.ofNat s.data.length := by simp [enc, raw, four]
  have n10 : (UInt8.ofNat s.data.length).toNat = s.data.length := by simp; omega
  unfold decErr
  rw [if_pos]
  rw [List.length_take]
  by_cases h14 : k < 14
  · left; omega
  · right
    have : ((enc s).take k).getD 10 0 = (enc s).getD 10 0 := by
      rw [List.getD_eq_getElem?_getD, List.getD_eq_getElem?_getD, List.getElem?_take, if_pos (by omega)]
    rw [this, e10, n10]
    omega
theorem dec_long (s : SegD) (h : s.Ok) (x : UInt8) : decErr (enc s ++ [x]) = 3 := by
  have hl := enc_length s
  have hd := h.data
  have e10 : (enc s ++ [x]).getD 10 0 = UInt8.ofNat s.data.length := by simp [enc, raw, four]
  have n10 : (UInt8.ofNat s.data.length).toNat = s.data.length := by simp; omega
  unfold decErr
  rw [List.length_append, e10, n10, hl]
  rw [if_neg (by simp; omega), if_pos (by left; simp)]
end Go.Proofs.Ytacfffegmmdgfaa.Sg
