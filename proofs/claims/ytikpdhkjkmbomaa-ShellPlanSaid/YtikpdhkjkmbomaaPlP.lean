/- The plain law ShellPlan: who has which descriptors behind a plan. Plain theorems, no condition. -/
import Derived.Test.YtikpdhkjkmbomaaRunsPlain
namespace Go.Proofs.Ytikpdhkjkmbomaa
open Go.RowKit
set_option linter.unusedVariables false

/-- What a descriptor leads to. -/
inductive Tok where
  | no
  | old (i : Nat)
  | rd (k : Nat)
  | wr (k : Nat)
  | fin
  | fout
  | foutm
deriving DecidableEq
def inS : List UInt8 := [105, 110]
def outS : List UInt8 := [111, 117, 116]
abbrev FdT := List Tok
def atT (f : FdT) (n : Int) : Tok := if 0 ≤ n then f.getD n.toNat .no else .no
def leastT : FdT → Nat
  | [] => 0
  | .no :: _ => 0
  | _ :: l => leastT l + 1
def openT (name : List UInt8) (a b : Int) : Tok :=
  if name = inS ∧ a = 1 ∧ b = 0 then .fin else if name = outS ∧ a = 2 ∧ b = 5 then .fout else if name = outS ∧ a = 2 ∧ b = 9 then .foutm else .no
/-- A call on one's own descriptors; the number of the next pipe. -/
def ownT (c : CallD) (f : FdT) (p : Nat) : Option (FdT × Nat) :=
  if c.num = 10 then
    if leastT f < 8 ∧ leastT (f.set (leastT f) (.rd p)) < 8 then some ((f.set (leastT f) (.rd p)).set (leastT (f.set (leastT f) (.rd p))) (.wr p), p + 1) else none
  else if c.num = 11 then
    if atT f c.a ≠ .no ∧ 0 ≤ c.b ∧ c.b < 8 then some (f.set c.b.toNat (atT f c.a), p) else none
  else if c.num = 6 then
    if atT f c.a ≠ .no then some (f.set c.a.toNat .no, p) else none
  else if c.num = 5 then
    if leastT f < 8 ∧ openT c.name c.a c.b ≠ .no then some (f.set (leastT f) (openT c.name c.a c.b), p) else none
  else none
structure WT where
  fds : List FdT
  pipes : Nat
  execs : List Int
  waits : Nat
def stpT (s : StepD) (w : WT) : Option WT :=
  if 0 ≤ s.who ∧ s.who < w.fds.length ∧ s.who ∉ w.execs then
    if s.call.num = 2 then (if s.who = 0 then some { w with fds := w.fds ++ [w.fds.getD s.who.toNat []] } else none)
    else if s.call.num = 3 then some { w with execs := w.execs ++ [s.who] }
    else if s.call.num = 4 then (if s.who = 0 then some { w with waits := w.waits + 1 } else none)
    else (ownT s.call (w.fds.getD s.who.toNat []) w.pipes).map fun r => { w with fds := w.fds.set s.who.toNat r.1, pipes := r.2 }
  else none
def runT : List StepD → WT → Option WT
  | [], w => some w
  | s :: l, w => (stpT s w).bind (runT l)
theorem runT_app (a b : List StepD) : ∀ w, runT (a ++ b) w = (runT a w).bind (runT b) := by
  induction a with
  | nil => intro w; rfl
  | cons s a ih =>
    intro w
    show (stpT s w).bind (runT (a ++ b)) = ((stpT s w).bind (runT a)).bind (runT b)
    cases stpT s w with
    | none => rfl
    | some w' => exact ih w'
/-- The shell and its newest child alone. -/
structure LS where
  sh : FdT
  kid : Option FdT
  pipes : Nat
  ex : Bool
deriving DecidableEq
def stepL (n : Int) (s : StepD) (w : LS) : Option LS :=
  if s.who = 0 then
    if s.call.num = 2 then (match w.kid with | none => some { w with kid := some w.sh } | some _ => none)
    else if s.call.num = 3 ∨ s.call.num = 4 then none
    else (ownT s.call w.sh w.pipes).map fun r => { w with sh := r.1, pipes := r.2 }
  else if s.who = n ∧ w.ex = false then
    match w.kid with
    | none => none
    | some f =>
      if s.call.num = 2 ∨ s.call.num = 4 then none
      else if s.call.num = 3 then some { w with ex := true }
      else (ownT s.call f w.pipes).map fun r => { w with kid := some r.1, pipes := r.2 }
  else none
def runL (n : Int) : List StepD → LS → Option LS
  | [], w => some w
  | s :: l, w => (stepL n s w).bind (runL n l)
def wide (done : List FdT) (E : List Int) (W : Nat) (n : Int) (x : LS) : WT := ⟨x.sh :: (done ++ x.kid.toList), x.pipes, E ++ (if x.ex = true then [n] else []), W⟩
theorem step_wide (done : List FdT) (E : List Int) (W : Nat) (n : Int) (hn : n = done.length + 1) (hE : ∀ e ∈ E, 0 < e ∧ e < n) (s : StepD) (x y : LS) (h : stepL n s x = some y) : stpT s (wide done E W n x) = some (wide done E W n y) := by
  obtain ⟨who, c⟩ := s
  obtain ⟨sh, kid, pp, ex⟩ := x
  unfold stepL at h
  dsimp only at h
  by_cases h0 : who = 0
  · subst h0
    rw [if_pos rfl] at h
    have hne : (0 : Int) ∉ (wide done E W n ⟨sh, kid, pp, ex⟩).execs := by
      intro hm
      rcases List.mem_append.1 hm with hm | hm
      · have := hE 0 hm; omega
      · split at hm
        · rw [List.mem_singleton] at hm; omega
        · cases hm
    unfold stpT
    rw [if_pos ⟨Int.le_refl _, by show (0 : Int) < ((sh :: (done ++ kid.toList)).length : Nat); rw [List.length_cons]; omega, hne⟩]
    dsimp only
    by_cases h2 : c.num = 2
    · rw [if_pos h2] at h ⊢
      rw [if_pos rfl]
      cases kid with
      | some f => cases h
      | none =>
        injection h with h
        subst h
        simp [wide]
    · rw [if_neg h2] at h ⊢
      by_cases h3 : c.num = 3 ∨ c.num = 4
      · rw [if_pos h3] at h; cases h
      · rw [if_neg h3] at h
        rw [if_neg (fun e => h3 (.inl e)), if_neg (fun e => h3 (.inr e))]
        show (ownT c sh pp).map _ = _
        cases ho : ownT c sh pp with
        | none => rw [ho] at h; cases h
        | some r =>
          rw [ho] at h
          injection h with h
          subst h
          simp [wide]
  · rw [if_neg h0] at h
    by_cases h1 : who = n ∧ ex = false
    · rw [if_pos h1] at h
      obtain ⟨rfl, rfl⟩ := h1
      cases kid with
      | none => cases h
      | some f =>
        dsimp only at h
        have hne : who ∉ (wide done E W who ⟨sh, some f, pp, false⟩).execs := by
          intro hm
          rcases List.mem_append.1 hm with hm | hm
          · have := hE who hm; omega
          · cases hm
        have hw : who.toNat = done.length + 1 := by omega
        unfold stpT
        rw [if_pos ⟨by show 0 ≤ who; omega, by show who < ((sh :: (done ++ [f])).length : Nat); rw [List.length_cons, List.length_append, List.length_singleton]; omega, hne⟩]
        dsimp only
        by_cases h2 : c.num = 2 ∨ c.num = 4
        · rw [if_pos h2] at h; cases h
        · rw [if_neg h2] at h
          rw [if_neg (fun e => h2 (.inl e))]
          by_cases h3 : c.num = 3
          · rw [if_pos h3] at h ⊢
            injection h with h
            subst h
            simp [wide]
          · rw [if_neg h3] at h ⊢
            rw [if_neg (fun e => h2 (.inr e))]
            have hg : (wide done E W who ⟨sh, some f, pp, false⟩).fds.getD who.toNat [] = f := by
              show (sh :: (done ++ [f])).getD who.toNat [] = f
              rw [hw, List.getD_cons_succ, List.getD_eq_getElem?_getD, List.getElem?_append_right (Nat.le_refl _)]
              simp
            rw [hg]
            show (ownT c f pp).map _ = _
            cases ho : ownT c f pp with
            | none => rw [ho] at h; cases h
            | some r =>
              rw [ho] at h
              injection h with h
              subst h
              show some ({ fds := (sh :: (done ++ [f])).set who.toNat r.1, pipes := r.2, execs := E ++ [], waits := W } : WT) = some ⟨sh :: (done ++ [r.1]), r.2, E ++ [], W⟩
              rw [hw, List.set_cons_succ, List.set_append_right _ _ (Nat.le_refl _), Nat.sub_self]
              rfl
    · rw [if_neg h1] at h; cases h
theorem run_wide (done : List FdT) (E : List Int) (W : Nat) (n : Int) (hn : n = done.length + 1) (hE : ∀ e ∈ E, 0 < e ∧ e < n) : ∀ (l : List StepD) (x y : LS), runL n l x = some y → runT l (wide done E W n x) = some (wide done E W n y) := by
  intro l
  induction l with
  | nil => intro x y h; injection h with h; subst h; rfl
  | cons s l ih =>
    intro x y h
    show (stpT s _).bind (runT l) = _
    have h' : (stepL n s x).bind (runL n l) = some y := h
    cases hs : stepL n s x with
    | none => rw [hs] at h'; cases h'
    | some z =>
      rw [hs] at h'
      rw [step_wide done E W n hn hE s x z hs]
      exact ih z y h'
end Go.Proofs.Ytikpdhkjkmbomaa
