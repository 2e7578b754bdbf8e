/- Lines of words as jobs, in plain words: the parser, the printer's tokens, and the law that what is printed is read so. Plain theorems, no program in sight. -/
import Derived.Test.YtjbgkcljjgofnaaDoorWPlain
namespace Go.Proofs.YtjbgkcljjgofnaaDoor
open Go.RowKit
set_option linter.unusedVariables false

section
variable {α β : Type}
/-- A command, a pipe, a job over tokens of any kind. -/
structure CmdJ (α : Type) where
  words : List α
  redirs : List (List UInt8 × α)
structure PipeJ (α : Type) where
  iff : List UInt8
  cmds : List (CmdJ α)
structure JobJ (α : Type) where
  pipes : List (PipeJ α)
  back : Bool
def CmdJ.map (g : α → β) (c : CmdJ α) : CmdJ β := ⟨c.words.map g, c.redirs.map fun r => (r.1, g r.2)⟩
def PipeJ.map (g : α → β) (p : PipeJ α) : PipeJ β := ⟨p.iff, p.cmds.map (CmdJ.map g)⟩
def JobJ.map (g : α → β) (j : JobJ α) : JobJ β := ⟨j.pipes.map (PipeJ.map g), j.back⟩
variable (o : α → List UInt8)
def isT (x : List UInt8) : List α → Bool
  | t :: _ => decide (o t = x)
  | [] => false
def redirT (r : List α) : Bool := isT o [60] r || (isT o [62] r || isT o [62, 62] r)
def cmdP : Nat → List α → CmdJ α → Option (CmdJ α) × List α
  | 0, r, _ => (none, r)
  | F + 1, r, c =>
    match r with
    | [] => (if c.words.isEmpty = true then none else some c, [])
    | t :: r' =>
      if o t = [] then cmdP F r' ⟨c.words ++ [t], c.redirs⟩
      else if redirT o (t :: r') = true then
        match r' with
        | [] => (none, [])
        | u :: r2 => if o u = [] then cmdP F r2 ⟨c.words, c.redirs ++ [(o t, u)]⟩ else (none, u :: r2)
      else (if c.words.isEmpty = true then none else some c, t :: r')
def pipeP (G : Nat) : Nat → List α → PipeJ α → Option (PipeJ α) × List α
  | 0, r, _ => (none, r)
  | F + 1, r, p =>
    match cmdP o G r ⟨[], []⟩ with
    | (none, r') => (none, r')
    | (some c, r') => if p.cmds.length + 1 = 6 ∨ isT o [124] r' = false then (some ⟨p.iff, p.cmds ++ [c]⟩, r') else pipeP G F (r'.drop 1) ⟨p.iff, p.cmds ++ [c]⟩
def opT : List α → List UInt8
  | t :: _ => o t
  | [] => []
def jobP (G : Nat) : Nat → List α → List UInt8 → List (PipeJ α) → Option (List (PipeJ α)) × List α
  | 0, r, _, _ => (none, r)
  | F + 1, r, op, ps =>
    match pipeP o G G r ⟨op, []⟩ with
    | (none, r') => (none, r')
    | (some p, r') => if ps.length + 1 = 6 ∨ (isT o [38, 38] r' = false ∧ isT o [124, 124] r' = false) then (some (ps ++ [p]), r') else jobP G F (r'.drop 1) (opT o r') (ps ++ [p])
def parseP (G : Nat) : Nat → List α → List (JobJ α) → Option (List (JobJ α))
  | 0, _, _ => none
  | F + 1, r, js =>
    match r with
    | [] => some js
    | t :: r0 =>
      match jobP o G G (t :: r0) [] [] with
      | (none, _) => none
      | (some ps, r') =>
        if (r'.isEmpty || (isT o [59] r' || isT o [38] r')) = false then none
        else if js.length = 8 then none
        else parseP G F (r'.drop 1) (js ++ [⟨ps, isT o [38] r'⟩])
end
section
variable {α β : Type} (g : α → β) (oa : α → List UInt8) (ob : β → List UInt8) (h : ∀ t, ob (g t) = oa t)
include h
theorem isT_map (x : List UInt8) (r : List α) : isT ob x (r.map g) = isT oa x r := by cases r <;> simp [isT, h]
theorem redirT_map (r : List α) : redirT ob (r.map g) = redirT oa r := by simp [redirT, isT_map g oa ob h]
theorem opT_map (r : List α) : opT ob (r.map g) = opT oa r := by cases r <;> simp [opT, h]
theorem cmdP_map : ∀ (F : Nat) (r : List α) (c : CmdJ α), cmdP ob F (r.map g) (c.map g) = ((cmdP oa F r c).1.map (CmdJ.map g), (cmdP oa F r c).2.map g) := by
  intro F
  induction F with
  | zero => intro r c; rfl
  | succ F ih =>
    intro r c
    cases r with
    | nil => simp only [List.map_nil, cmdP, CmdJ.map, List.isEmpty_map]; split <;> rfl
    | cons t r =>
      simp only [List.map_cons, cmdP, h]
      split
      · rw [← ih]; simp [CmdJ.map]
      · rw [← List.map_cons, redirT_map g oa ob h]
        split
        · cases r with
          | nil => rfl
          | cons u r2 =>
            simp only [List.map_cons, h]
            split
            · rw [← ih]; simp [CmdJ.map]
            · rfl
        · simp only [CmdJ.map, List.isEmpty_map]
          split <;> rfl
theorem pipeP_map (G : Nat) : ∀ (F : Nat) (r : List α) (p : PipeJ α), pipeP ob G F (r.map g) (p.map g) = ((pipeP oa G F r p).1.map (PipeJ.map g), (pipeP oa G F r p).2.map g) := by
  intro F
  induction F with
  | zero => intro r p; rfl
  | succ F ih =>
    intro r p
    simp only [pipeP]
    have hc := cmdP_map g oa ob h G r ⟨[], []⟩
    rw [show (CmdJ.map g ⟨[], []⟩ : CmdJ β) = ⟨[], []⟩ from rfl] at hc
    rw [hc]
    cases hx : cmdP oa G r ⟨[], []⟩ with
    | mk x r' =>
      cases x with
      | none => rfl
      | some c =>
        simp only [Option.map_some]
        rw [isT_map g oa ob h]
        have e : (⟨(p.map g).iff, (p.map g).cmds ++ [c.map g]⟩ : PipeJ β) = PipeJ.map g ⟨p.iff, p.cmds ++ [c]⟩ := by simp [PipeJ.map]
        have el : (p.map g).cmds.length = p.cmds.length := by simp [PipeJ.map]
        rw [e, el]
        split
        · rfl
        · rw [← ih, List.map_drop]
theorem jobP_map (G : Nat) : ∀ (F : Nat) (r : List α) (op : List UInt8) (ps : List (PipeJ α)), jobP ob G F (r.map g) op (ps.map (PipeJ.map g)) = ((jobP oa G F r op ps).1.map (List.map (PipeJ.map g)), (jobP oa G F r op ps).2.map g) := by
  intro F
  induction F with
  | zero => intro r op ps; rfl
  | succ F ih =>
    intro r op ps
    simp only [jobP]
    have hc := pipeP_map g oa ob h G G r ⟨op, []⟩
    rw [show (PipeJ.map g ⟨op, []⟩ : PipeJ β) = ⟨op, []⟩ from rfl] at hc
    rw [hc]
    cases hx : pipeP oa G G r ⟨op, []⟩ with
    | mk x r' =>
      cases x with
      | none => rfl
      | some p =>
        simp only [Option.map_some]
        rw [isT_map g oa ob h, isT_map g oa ob h, opT_map g oa ob h, List.length_map, show ps.map (PipeJ.map g) ++ [p.map g] = (ps ++ [p]).map (PipeJ.map g) by simp]
        split
        · rfl
        · rw [← ih, List.map_drop]
theorem parseP_map (G : Nat) : ∀ (F : Nat) (r : List α) (js : List (JobJ α)), parseP ob G F (r.map g) (js.map (JobJ.map g)) = (parseP oa G F r js).map (List.map (JobJ.map g)) := by
  intro F
  induction F with
  | zero => intro r js; rfl
  | succ F ih =>
    intro r js
    cases r with
    | nil => rfl
    | cons t r =>
      simp only [List.map_cons, parseP]
      rw [← List.map_cons]
      have hc := jobP_map g oa ob h G G (t :: r) [] []
      rw [List.map_nil] at hc
      rw [hc]
      cases hx : jobP oa G G (t :: r) [] [] with
      | mk x r' =>
        cases x with
        | none => rfl
        | some ps =>
          simp only [Option.map_some]
          rw [isT_map g oa ob h, isT_map g oa ob h, List.length_map, List.isEmpty_map]
          split
          · rfl
          · split
            · rfl
            · rw [show js.map (JobJ.map g) ++ [(⟨ps.map (PipeJ.map g), isT oa [38] r'⟩ : JobJ β)] = (js ++ [(⟨ps, isT oa [38] r'⟩ : JobJ α)]).map (JobJ.map g) by simp [JobJ.map], ← List.map_drop, ih]
end
end Go.Proofs.YtjbgkcljjgofnaaDoor
