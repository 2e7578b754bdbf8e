/- Records of a trace as plain data; their encoding as bytes. No program in sight. -/
import Derived.Test.YtngdhpjbfcgloaaMem
namespace Go.Proofs.Ytngdhpjbfcgloaa
open Go.RowKit

/-- A record. -/
structure RecD where
  k : Int
  c : Int
  t : Int
  o : Int
structure RecD.Ok (r : RecD) : Prop where
  k1 : 1 ≤ r.k
  k2 : r.k ≤ 9
  c1 : 0 ≤ r.c
  c2 : r.c ≤ 3
  t1 : 1 ≤ r.t
  t2 : r.t ≤ 16
  o1 : 0 ≤ r.o
  o2 : r.o ≤ 63
def okB (r : RecD) : Bool := decide (1 ≤ r.k ∧ r.k ≤ 9 ∧ 0 ≤ r.c ∧ r.c ≤ 3 ∧ 1 ≤ r.t ∧ r.t ≤ 16 ∧ 0 ≤ r.o ∧ r.o ≤ 63)
theorem ok_iff (r : RecD) : okB r = true ↔ r.Ok := by
  simp only [okB, decide_eq_true_eq]
  exact ⟨fun ⟨a, b, c, d, e, f, g, h⟩ => ⟨a, b, c, d, e, f, g, h⟩, fun ⟨a, b, c, d, e, f, g, h⟩ => ⟨a, b, c, d, e, f, g, h⟩⟩

def recC (r : RecD) : List Value := [.int .i64 r.k, .int .i64 r.c, .int .i64 r.t, .int .i64 r.o]
/-- Records, as the cells that hold them. -/
def recsV (l : List RecD) : List Value := l.flatMap recC
theorem recsV_length (l : List RecD) : (recsV l).length = l.length * 4 := by
  induction l with
  | nil => rfl
  | cons r l ih => simp only [recsV, List.flatMap_cons, List.length_append, List.length_cons] at ih ⊢; rw [ih]; simp [recC]; omega
theorem recsV_append (a b : List RecD) : recsV (a ++ b) = recsV a ++ recsV b := by simp [recsV]
theorem recsV_one (l : List RecD) : ∀ u ∈ recsV l, u.oneCell' = true := by
  intro u hu
  obtain ⟨r, _, h⟩ := List.mem_flatMap.1 hu
  simp only [recC, List.mem_cons, List.not_mem_nil, or_false] at h
  rcases h with h | h | h | h <;> subst h <;> rfl
theorem recsV_get (l : List RecD) (i j : Nat) (hi : i < l.length) (hj : j < 4) : (recsV l)[i * 4 + j]? = (recC l[i])[j]? := by
  induction l generalizing i with
  | nil => simp at hi
  | cons r l ih =>
    simp only [recsV, List.flatMap_cons]
    cases i with
    | zero => simp only [Nat.zero_mul, Nat.zero_add]; rw [List.getElem?_append_left (by simp [recC]; omega)]; rfl
    | succ i =>
      rw [List.getElem?_append_right (by simp [recC]; omega)]
      have := ih i (by simpa using hi)
      simp only [recsV] at this
      have e : (i + 1) * 4 + j - (recC r).length = i * 4 + j := by simp [recC]; omega
      rw [e, this]
      rfl

/-- The cells of the record at place i. -/
theorem rec_cells {w : World} {B n b off : Nat} {l : List RecD} (h : Reads w B 4 (some ⟨b, off, none⟩) n (recsV l)) (i : Nat) (hi : i < n) (hl : i < l.length) :
    w.cell? ⟨b, off + i * 4, none⟩ = some (.int .i64 l[i].k) ∧ w.cell? ⟨b, off + i * 4 + 1, none⟩ = some (.int .i64 l[i].c) ∧ w.cell? ⟨b, off + i * 4 + 2, none⟩ = some (.int .i64 l[i].t) ∧ w.cell? ⟨b, off + i * 4 + 3, none⟩ = some (.int .i64 l[i].o) := by
  obtain ⟨ad, he, _, hc⟩ := h.2 (by omega)
  injection he with he
  subst he
  have g := fun j hj => recsV_get l i j hl hj
  have c0 := hc (i * 4 + 0) (.int .i64 l[i].k) (by rw [g 0 (by omega)]; rfl)
  have c1 := hc (i * 4 + 1) (.int .i64 l[i].c) (by rw [g 1 (by omega)]; rfl)
  have c2 := hc (i * 4 + 2) (.int .i64 l[i].t) (by rw [g 2 (by omega)]; rfl)
  have c3 := hc (i * 4 + 3) (.int .i64 l[i].o) (by rw [g 3 (by omega)]; rfl)
  rw [add_lit] at c0 c1 c2 c3
  exact ⟨c0, by rw [Nat.add_assoc]; exact c1, by rw [Nat.add_assoc]; exact c2, by rw [Nat.add_assoc]; exact c3⟩
theorem reads4_addr {w : World} {B n : Nat} {A : Option Addr} {xs : List Value} (h : Reads w B 4 A n xs) (hn : 0 < n) : ∃ b off, A = some ⟨b, off, none⟩ ∧ b < B := by
  obtain ⟨ad, e, hb, hc⟩ := h.2 hn
  have hl := h.1
  obtain ⟨b, off, spot⟩ := ad
  have h0 := hc 0 (xs[0]'(by omega)) (List.getElem?_eq_getElem (by omega))
  have hs : spot = none := by simpa [Addr.add] using World.cell?_spot h0
  subst hs
  exact ⟨b, off, e, hb⟩

/-- The bytes of a record. -/
def encR (r : RecD) : List UInt8 := [UInt8.ofNat (r.k * 4 + r.c).toNat, UInt8.ofNat r.t.toNat, UInt8.ofNat r.o.toNat]
def encT (l : List RecD) : List UInt8 := l.flatMap encR
theorem encT_length (l : List RecD) : (encT l).length = 3 * l.length := by
  induction l with
  | nil => rfl
  | cons r l ih => simp only [encT, List.flatMap_cons, List.length_append, List.length_cons] at ih ⊢; rw [ih]; simp [encR]; omega
theorem encT_append (a b : List RecD) : encT (a ++ b) = encT a ++ encT b := by simp [encT]
/-- The record that three bytes stand for. -/
def recAt (bs : List UInt8) (i : Nat) : RecD := ⟨((bs.getD i 0).toNat / 4 : Nat), ((bs.getD i 0).toNat % 4 : Nat), ((bs.getD (i + 1) 0).toNat : Nat), ((bs.getD (i + 2) 0).toNat : Nat)⟩
def recsAt (bs : List UInt8) (k : Nat) : List RecD := (List.range k).map fun j => recAt bs (3 * j)
theorem recsAt_length (bs : List UInt8) (k : Nat) : (recsAt bs k).length = k := by simp [recsAt]
theorem recsAt_succ (bs : List UInt8) (k : Nat) : recsAt bs (k + 1) = recsAt bs k ++ [recAt bs (3 * k)] := by simp [recsAt, List.range_succ]
theorem enc_recAt (bs : List UInt8) (i : Nat) (h : i + 3 ≤ bs.length) : encR (recAt bs i) = (bs.drop i).take 3 := by
  have h0 := (bs.getD i 0).toNat_lt
  have e : ∀ j, j < 3 → ((bs.drop i).take 3)[j]? = some (bs.getD (i + j) 0) := by
    intro j hj
    rw [List.getElem?_take, if_pos hj, List.getElem?_drop, List.getD_eq_getElem?_getD, List.getElem?_eq_getElem (by omega)]
    rfl
  have hl : ((bs.drop i).take 3).length = 3 := by simp; omega
  match hd : (bs.drop i).take 3, hl with
  | [x, y, z], _ =>
    have e0 := e 0 (by omega)
    have e1 := e 1 (by omega)
    have e2 := e 2 (by omega)
    rw [hd] at e0 e1 e2
    simp only [List.getElem?_cons_zero, List.getElem?_cons_succ, Option.some.injEq, Nat.add_zero] at e0 e1 e2
    subst e0 e1 e2
    simp only [encR, recAt, List.cons.injEq, and_true]
    refine ⟨?_, ?_, ?_⟩
    · apply UInt8.toNat_inj.1
      simp only [UInt8.toNat_ofNat']
      omega
    · simp
    · simp
theorem enc_recsAt (bs : List UInt8) (k : Nat) (h : 3 * k ≤ bs.length) : encT (recsAt bs k) = bs.take (3 * k) := by
  induction k with
  | zero => simp [recsAt, encT]
  | succ k ih =>
    rw [recsAt_succ, encT_append, ih (by omega)]
    have : encT [recAt bs (3 * k)] = (bs.drop (3 * k)).take 3 := by simp only [encT, List.flatMap_cons, List.flatMap_nil, List.append_nil]; exact enc_recAt bs _ (by omega)
    rw [this, show 3 * (k + 1) = 3 * k + 3 from by omega, List.take_add]
theorem encT_get (l : List RecD) (i j : Nat) (hi : i < l.length) (hj : j < 3) : (encT l)[3 * i + j]? = (encR l[i])[j]? := by
  induction l generalizing i with
  | nil => simp at hi
  | cons r l ih =>
    simp only [encT, List.flatMap_cons]
    cases i with
    | zero => simp only [Nat.mul_zero, Nat.zero_add]; rw [List.getElem?_append_left (by simp [encR]; omega)]; rfl
    | succ i =>
      rw [List.getElem?_append_right (by simp [encR]; omega)]
      have := ih i (by simpa using hi)
      simp only [encT] at this
      have e : 3 * (i + 1) + j - (encR r).length = 3 * i + j := by simp [encR]; omega
      rw [e, this]
      rfl
theorem recAt_enc (l : List RecD) (i : Nat) (hi : i < l.length) (ok : l[i].Ok) : recAt (encT l) (3 * i) = l[i] := by
  obtain ⟨a, b, c, d, e, f, g, h⟩ := ok
  have g0 := encT_get l i 0 hi (by omega)
  have g1 := encT_get l i 1 hi (by omega)
  have g2 := encT_get l i 2 hi (by omega)
  generalize l[i] = r at *
  obtain ⟨rk, rc, rt, ro⟩ := r
  dsimp only at a b c d e f g h
  simp only [encR, List.getElem?_cons_zero, List.getElem?_cons_succ, Nat.add_zero] at g0 g1 g2
  simp only [recAt, List.getD_eq_getElem?_getD, g0, g1, g2, Option.getD_some, UInt8.toNat_ofNat', RecD.mk.injEq]
  refine ⟨?_, ?_, ?_, ?_⟩ <;> omega
theorem recsAt_enc (l : List RecD) (ok : ∀ r ∈ l, r.Ok) : recsAt (encT l) l.length = l := by
  apply List.ext_getElem
  · simp [recsAt_length]
  · intro i h1 h2
    simp only [recsAt, List.getElem_map, List.getElem_range]
    exact recAt_enc l i h2 (ok _ (List.getElem_mem h2))
end Go.Proofs.Ytngdhpjbfcgloaa
