/- Parts put together, in plain words: where code and data stand. Plain theorems. -/
import Derived.Test.YtljlniehbenefaaObChk
namespace Go.Proofs.Ytljlniehbenefaa
open Go.RowKit
set_option linter.unusedVariables false

theorem own_kept1 {w w' : World} {base size n g : Nat} {e : TypeId} {v : Value} {xs : List Value} (h : w.ownsRow base e size v n xs) (hg : w.grownBy w' (some g)) (hne : v.ownBlock ≠ some g) : w'.ownsRow base e size v n xs :=
  h.kept hg (by
    cases hv : v.ownBlock with
    | none => exact .inl rfl
    | some j => exact .inr (fun e => hne (by rw [hv]; exact e)))
theorem Blk.rowsF' {w : World} {g : Nat} {t : TypeId} {cs : Array Value} (h : Blk w g t cs) (n size : Nat) (hs : cs.size = n * size) : Reads w w.heap.size size (some ⟨g, 0, none⟩) n cs.toList := by
  refine ⟨by simpa using hs, fun _ => ⟨_, rfl, h.lt, fun j u hu => ?_⟩⟩
  rw [add_lit, Nat.zero_add, h.cell]
  simpa using hu
abbrev ObX : Type := ObD × ObV
def obC (v : ObV) : List Value := [.slice v.A1 v.n1 v.c1, .slice v.A2 v.n2 v.c2, .slice v.A3 v.n3 v.c3, .slice v.A4 v.n4 v.c4]
def obXC (p : ObX) : List Value := obC p.2
theorem obXC_len (p : ObX) : (obXC p).length = 4 := rfl
theorem obXC_one (l : List ObX) : ∀ u ∈ l.flatMap obXC, u.oneCell' = true := by
  intro u hu
  obtain ⟨n, _, hn⟩ := List.mem_flatMap.1 hu
  simp only [obXC, obC, List.mem_cons, List.not_mem_nil, or_false] at hn
  rcases hn with rfl | rfl | rfl | rfl <;> rfl
/-- A list of parts that may be, and can be read. -/
structure Good (w : World) (A : Option Addr) (n : Nat) (ps : List ObX) : Prop where
  len : ps.length = n
  row : Reads w w.heap.size 4 A n (ps.flatMap obXC)
  each : ∀ p ∈ ps, ObRd w p.1 p.2
  chk : ∀ p ∈ ps, ChkOk p.1
  sm : ∀ p ∈ ps, ObSm p.1
theorem Good.ext {w w' : World} {A : Option Addr} {n : Nat} {ps : List ObX} (h : Good w A n ps) (hx : Ext w w') : Good w' A n ps :=
  ⟨h.len, (hx.reads h.row (Nat.le_refl _)).more hx.size, fun p hp => (h.each p hp).ext hx, h.chk, h.sm⟩
/-- The cells of part i. -/
theorem Good.at_ {w : World} {A : Option Addr} {n : Nat} {ps : List ObX} (h : Good w A n ps) (i : Nat) (hi : i < n) :
    ∃ (b off : Nat) (o : ObD) (v : ObV) (hi' : i < ps.length), A = some ⟨b, off, none⟩ ∧ ps[i] = (o, v) ∧ ObRd w o v ∧ ChkOk o ∧ ObSm o ∧
      w.cell? ⟨b, off + i * 4, none⟩ = some (.slice v.A1 v.n1 v.c1) ∧ w.cell? ⟨b, off + i * 4 + 1, none⟩ = some (.slice v.A2 v.n2 v.c2) ∧ w.cell? ⟨b, off + i * 4 + 2, none⟩ = some (.slice v.A3 v.n3 v.c3) ∧ w.cell? ⟨b, off + i * 4 + 3, none⟩ = some (.slice v.A4 v.n4 v.c4) := by
  have hi' : i < ps.length := by rw [h.len]; exact hi
  obtain ⟨b, off, rfl, -⟩ := h.row.addr (by omega) (by omega)
  have q0 := Reads.elem obXC_len h.row i hi' (by omega) 0 (by omega) rfl
  have q1 := Reads.elem obXC_len h.row i hi' (by omega) 1 (by omega) rfl
  have q2 := Reads.elem obXC_len h.row i hi' (by omega) 2 (by omega) rfl
  have q3 := Reads.elem obXC_len h.row i hi' (by omega) 3 (by omega) rfl
  rw [Nat.add_zero] at q0
  exact ⟨b, off, ps[i].1, ps[i].2, hi', rfl, rfl, h.each _ (List.getElem_mem hi'), h.chk _ (List.getElem_mem hi'), h.sm _ (List.getElem_mem hi'), q0, q1, q2, q3⟩
def cLen (os : List ObX) : Nat := (os.map fun p => 4 * p.1.code.length).sum
def upN (n k : Nat) : Nat := (n + k - 1) / k * k
def dLen (os : List ObX) : Nat := (os.map fun p => upN p.1.data.length 4).sum
def cAt (os : List ObX) (i : Nat) : Nat := 16 + cLen (os.take i)
def dBeg (os : List ObX) : Nat := upN (16 + cLen os) 16
def dAt (os : List ObX) (i : Nat) : Nat := dBeg os + dLen (os.take i)
def endL (os : List ObX) : Nat := dBeg os + dLen os
theorem sum_take_next {α : Type} (f : α → Nat) (l : List α) (i : Nat) (h : i < l.length) : ((l.take (i + 1)).map f).sum = ((l.take i).map f).sum + f l[i] := by
  rw [List.take_succ_eq_append_getElem h, List.map_append, List.sum_append]
  simp
theorem cLen_next (os : List ObX) (i : Nat) (h : i < os.length) : cLen (os.take (i + 1)) = cLen (os.take i) + 4 * os[i].1.code.length := sum_take_next _ os i h
theorem dLen_next (os : List ObX) (i : Nat) (h : i < os.length) : dLen (os.take (i + 1)) = dLen (os.take i) + upN os[i].1.data.length 4 := sum_take_next _ os i h
theorem sum_take_le {α : Type} (f : α → Nat) (l : List α) (i : Nat) : ((l.take i).map f).sum ≤ (l.map f).sum := by
  conv => rhs; rw [← List.take_append_drop i l, List.map_append, List.sum_append]
  omega
theorem sum_le_mul {α : Type} (f : α → Nat) (k : Nat) : ∀ (l : List α), (∀ x ∈ l, f x ≤ k) → (l.map f).sum ≤ l.length * k := by
  intro l
  induction l with
  | nil => intro _; simp
  | cons a l ih =>
    intro h
    have h1 := h a (by simp)
    have h2 := ih fun x hx => h x (by simp [hx])
    rw [List.map_cons, List.sum_cons, List.length_cons, Nat.add_mul]
    omega
theorem cLen_bd {os : List ObX} (h : ∀ p ∈ os, ChkOk p.1) (hn : os.length ≤ 12) : cLen os ≤ 6144 := by
  have := sum_le_mul (fun p : ObX => 4 * p.1.code.length) 512 os (fun p hp => by have := (h p hp).code; omega)
  unfold cLen
  omega
theorem upN_bd (n k : Nat) (hk : 0 < k) : n ≤ upN n k ∧ upN n k ≤ n + k - 1 := by
  unfold upN
  have h1 := Nat.div_add_mod (n + k - 1) k
  have h2 := Nat.mod_lt (n + k - 1) hk
  rw [Nat.mul_comm] at h1
  omega
theorem dLen_bd {os : List ObX} (h : ∀ p ∈ os, ChkOk p.1) (hn : os.length ≤ 12) : dLen os ≤ 3108 := by
  have := sum_le_mul (fun p : ObX => upN p.1.data.length 4) 259 os (fun p hp => by have h1 := (h p hp).data; have h2 := (upN_bd p.1.data.length 4 (by omega)).2; omega)
  unfold dLen
  omega
/-- Spots while they are made: code's places, and the first k data's. -/
def spC (p : Nat × Nat) : List Value := [.int .i64 (p.1 : Int), .int .i64 (p.2 : Int)]
theorem spC_len (p : Nat × Nat) : (spC p).length = 2 := rfl
theorem spC_one (l : List (Nat × Nat)) : ∀ u ∈ l.flatMap spC, u.oneCell' = true := by
  intro u hu
  obtain ⟨n, _, hn⟩ := List.mem_flatMap.1 hu
  simp only [spC, List.mem_cons, List.not_mem_nil, or_false] at hn
  rcases hn with rfl | rfl <;> rfl
def sp1 (os : List ObX) (k : Nat) : List (Nat × Nat) := (List.range k).map fun i => (cAt os i, 0)
def sp2 (os : List ObX) (k : Nat) : List (Nat × Nat) := (List.range os.length).map fun i => (cAt os i, if i < k then dAt os i else 0)
def spotsL (os : List ObX) : List (Nat × Nat) := (List.range os.length).map fun i => (cAt os i, dAt os i)
theorem sp1_next (os : List ObX) (k : Nat) : sp1 os (k + 1) = sp1 os k ++ [(cAt os k, 0)] := by simp [sp1, List.range_succ]
theorem sp2_zero (os : List ObX) : sp2 os 0 = sp1 os os.length := by simp [sp2, sp1]
theorem sp2_all (os : List ObX) : sp2 os os.length = spotsL os := by
  unfold sp2 spotsL
  refine List.map_congr_left fun i hi => ?_
  rw [if_pos (List.mem_range.1 hi)]
theorem flat_set {α : Type} {f : α → List Value} {k : Nat} (hf : ∀ x, (f x).length = k) (l : List α) (i j : Nat) (hi : i < l.length) (hj : j < k) (x : α) (u : Value) (h : (f l[i]).set j u = f x) : (l.flatMap f).set (i * k + j) u = (l.set i x).flatMap f := by
  induction l generalizing i with
  | nil => simp at hi
  | cons a l ih =>
    cases i with
    | zero =>
      rw [Nat.zero_mul, Nat.zero_add, List.flatMap_cons, List.set_append_left _ _ (by rw [hf]; exact hj), List.set_cons_zero, List.flatMap_cons]
      simp only [List.getElem_cons_zero] at h
      rw [h]
    | succ i =>
      rw [List.flatMap_cons, List.set_append_right _ _ (by rw [hf, Nat.succ_mul]; omega), hf, show (i + 1) * k + j - k = i * k + j by rw [Nat.succ_mul]; omega, List.set_cons_succ, List.flatMap_cons]
      rw [ih i (by simpa using hi) (by simpa using h)]
theorem sp2_next (os : List ObX) (k : Nat) (h : k < os.length) : ((sp2 os k).flatMap spC).set (k * 2 + 1) (.int .i64 (dAt os k : Int)) = (sp2 os (k + 1)).flatMap spC := by
  rw [flat_set spC_len (sp2 os k) k 1 (by simpa [sp2] using h) (by omega) (cAt os k, dAt os k) _ (by simp [sp2, spC])]
  congr 1
  apply List.ext_getElem?
  intro i
  unfold sp2
  rw [List.getElem?_set]
  simp only [List.getElem?_map, List.length_map, List.length_range]
  by_cases hi : k = i
  · subst hi
    simp [h]
  · rw [if_neg hi]
    by_cases hl : i < os.length
    · rw [List.getElem?_range hl]
      simp only [Option.map_some, Option.some.injEq, Prod.mk.injEq, true_and]
      by_cases h1 : i < k
      · rw [if_pos h1, if_pos (by omega)]
      · rw [if_neg h1, if_neg (by omega)]
    · rw [List.getElem?_eq_none (by simpa using hl)]
      rfl
end Go.Proofs.Ytljlniehbenefaa
