/- Who reads, and since when: the state behind records; the records that RefsGrace makes. No program in sight. -/
import Derived.Test.YtlmcahgffakoiaaRefsPlain
namespace Go.Proofs.Ytlmcahgffakoiaa
open Go.RowKit

structure ESt where
  deep : Nat → Nat
  since : Nat → Nat → Bool
def stepE (s : ESt) (r : RecD) : ESt :=
  if r.k = 3 then ⟨updN s.deep r.t.toNat (s.deep r.t.toNat + 1), s.since⟩
  else if r.k = 4 then ⟨updN s.deep r.t.toNat (s.deep r.t.toNat - 1), if 1 < s.deep r.t.toNat then s.since else fun o => updN (s.since o) r.t.toNat false⟩
  else if r.k = 8 then ⟨s.deep, updN s.since r.o.toNat (fun x => decide (x < 17 ∧ 0 < s.deep x))⟩
  else s
def emptyB (S : Nat → Bool) : Bool := decide ((setL S 64).length = 0)
def okE (s : ESt) (r : RecD) : Bool := if r.k = 9 then emptyB (s.since r.o.toNat) else true
def e0 : ESt := ⟨fun _ => 0, fun _ _ => false⟩
def stE (l : List RecD) : ESt := l.foldl stepE e0
theorem stE_snoc (l : List RecD) (r : RecD) : stE (l ++ [r]) = stepE (stE l) r := by simp [stE]
def CleanE (l : List RecD) (k : Nat) : Prop := ∀ i (h : i < l.length), i < k → okE (stE (l.take i)) l[i] = true
theorem CleanE.snoc {l : List RecD} {r : RecD} (h : CleanE l l.length) (hr : okE (stE l) r = true) : CleanE (l ++ [r]) (l ++ [r]).length := by
  intro i hi _
  by_cases hl : i < l.length
  · rw [List.getElem_append_left hl, List.take_append_of_le_length (by omega)]
    exact h i hl hl
  · have : i = l.length := by simp at hi; omega
    subst this
    simpa using hr
theorem deep_bound (l : List RecD) (x : Nat) : (stE l).deep x ≤ l.length := by
  have key : ∀ (l : List RecD) (s : ESt) (B : Nat), (∀ x, s.deep x ≤ B) → ∀ x, (l.foldl stepE s).deep x ≤ B + l.length := by
    intro l
    induction l with
    | nil => intro s B h x; simpa using h x
    | cons r l ih =>
      intro s B h x
      rw [List.foldl_cons]
      have h1 : ∀ x, (stepE s r).deep x ≤ B + 1 := by
        intro y
        have hy := h y
        have ho := h r.t.toNat
        unfold stepE
        repeat' split
        all_goals ((try dsimp only [updN]); first | omega | (split <;> omega))
      have := ih _ (B + 1) h1 x
      simp only [List.length_cons]
      omega
  have := key l e0 0 (fun _ => Nat.le_refl _) x
  rw [Nat.zero_add] at this
  exact this

/-- One who enters, once. -/
def ent (t : Nat) : RecD := ⟨3, 0, t, 0⟩
def lev (t : Nat) : RecD := ⟨4, 0, t, 0⟩
/-- Behind readers ts: S says who they are. -/
structure Enters (ys : List RecD) (S : Nat → Bool) : Prop where
  clean : CleanE ys ys.length
  ok : ∀ r ∈ ys, r.Ok
  deep : ∀ t, (stE ys).deep t = if S t = true then 1 else 0
  since : ∀ o x, (stE ys).since o x = false
  small : ∀ t, S t = true → 1 ≤ t ∧ t ≤ 6
theorem Enters.start : Enters [] (fun _ => false) where
  clean := fun i h => absurd h (by simp)
  ok := by simp
  deep := fun _ => rfl
  since := fun _ _ => rfl
  small := fun _ h => by cases h
theorem ok_snoc {ys : List RecD} {r : RecD} (h : ∀ q ∈ ys, q.Ok) (hr : r.Ok) : ∀ q ∈ ys ++ [r], q.Ok := fun q hq => by
  rcases List.mem_append.1 hq with hq | hq
  · exact h q hq
  · rw [List.mem_singleton.1 hq]; exact hr
theorem ent_ok (t : Nat) (h1 : 1 ≤ t) (h2 : t ≤ 16) : (ent t).Ok := by constructor <;> simp only [ent] <;> omega
theorem lev_ok (t : Nat) (h1 : 1 ≤ t) (h2 : t ≤ 16) : (lev t).Ok := by constructor <;> simp only [lev] <;> omega
theorem Enters.next {ys : List RecD} {S : Nat → Bool} (h : Enters ys S) (t : Nat) (h1 : 1 ≤ t) (h2 : t ≤ 6) (hS : S t = false) : Enters (ys ++ [ent t]) (updN S t true) where
  clean := h.clean.snoc rfl
  ok := ok_snoc h.ok (ent_ok t h1 (by omega))
  deep := fun x => by
    have hd := h.deep x
    have ht := h.deep t
    rw [stE_snoc]
    simp only [stepE, ent, if_true, updN, Int.toNat_natCast]
    by_cases e : x = t
    · subst e; simp [ht, hS]
    · simp [e, hd]
  since := fun o x => by
    rw [stE_snoc]
    simp only [stepE, ent, if_true]
    exact h.since o x
  small := fun x hx => by
    by_cases e : x = t
    · subst e; exact ⟨h1, h2⟩
    · rw [updN_other _ _ _ _ e] at hx; exact h.small x hx
abbrev later3 : RecD := ⟨8, 0, 9, 3⟩
abbrev done3 : RecD := ⟨9, 0, 9, 3⟩
/-- Behind the wish, and one more reader: so many of the old readers (U) still read. -/
structure Waits (ys : List RecD) (U : Nat → Bool) : Prop where
  clean : CleanE ys ys.length
  ok : ∀ r ∈ ys, r.Ok
  deep : ∀ t, t ≤ 6 → (stE ys).deep t = if U t = true then 1 else 0
  since : ∀ x, (stE ys).since 3 x = U x
  small : ∀ t, U t = true → 1 ≤ t ∧ t ≤ 6
theorem Enters.wish {ys : List RecD} {S : Nat → Bool} (h : Enters ys S) (r : Nat) (hr : r < 3) : Waits (ys ++ [later3, ent (10 + r)]) S := by
  have e : ys ++ [later3, ent (10 + r)] = (ys ++ [later3]) ++ [ent (10 + r)] := by simp
  rw [e]
  have h1 : CleanE (ys ++ [later3]) (ys ++ [later3]).length := h.clean.snoc rfl
  refine ⟨h1.snoc rfl, ok_snoc (ok_snoc h.ok ?_) (ent_ok _ (by omega) (by omega)), fun t ht => ?_, fun x => ?_, h.small⟩
  · constructor <;> simp
  · rw [stE_snoc, stE_snoc]
    simp only [stepE, ent, if_true, updN, Int.toNat_natCast]
    simp [show t ≠ 10 + r by omega, h.deep t]
  · have hd := h.deep x
    have h2 : (stE ((ys ++ [later3]) ++ [ent (10 + r)])).since 3 x = decide (x < 17 ∧ 0 < (stE ys).deep x) := by
      rw [stE_snoc, stE_snoc]
      rfl
    rw [h2, hd]
    cases hS : S x with
    | false => simp
    | true => have := h.small x hS; simp; omega
theorem Waits.leave {ys : List RecD} {U : Nat → Bool} (h : Waits ys U) (t : Nat) (h1 : U t = true) : Waits (ys ++ [lev t]) (updN U t false) := by
  obtain ⟨a, b⟩ := h.small t h1
  have hd := h.deep t (by omega)
  rw [if_pos h1] at hd
  refine ⟨h.clean.snoc rfl, ok_snoc h.ok (lev_ok t a (by omega)), fun x hx => ?_, fun x => ?_, fun x hx => ?_⟩
  · rw [stE_snoc]
    simp only [stepE, lev, if_true, updN, Int.toNat_natCast]
    by_cases e : x = t
    · subst e; simp [hd, updN]
    · simp [e, h.deep x hx, updN]
  · rw [stE_snoc]
    simp [stepE, lev, hd, updN, h.since x]
  · by_cases e : x = t
    · subst e; rw [updN_same] at hx; cases hx
    · rw [updN_other _ _ _ _ e] at hx; exact h.small x hx
theorem Waits.last {ys : List RecD} {U : Nat → Bool} (h : Waits ys U) : (∀ r ∈ ys ++ [done3], r.Ok) ∧ okE (stE ys) done3 = emptyB U := by
  refine ⟨ok_snoc h.ok (by constructor <;> simp), ?_⟩
  have : (stE ys).since 3 = U := funext h.since
  simp [okE, this]
theorem closed_early : okE (stE ([ent 1] ++ [⟨8, 0, 2, 0⟩])) ⟨9, 0, 2, 0⟩ = false := by decide
theorem closed_clean : CleanE [ent 1, ⟨8, 0, 2, 0⟩, ⟨9, 0, 2, 0⟩] 2 := by
  intro i hi h2
  match i, h2 with
  | 0, _ => rfl
  | 1, _ => rfl
end Go.Proofs.Ytlmcahgffakoiaa
