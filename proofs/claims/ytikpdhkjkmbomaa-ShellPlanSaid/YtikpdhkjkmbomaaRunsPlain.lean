/- The plain law ShellRuns: whom a plan lets run, and who waits. Plain theorems, no condition. -/
import Derived.Test.YtikpdhkjkmbomaaMkPlain
namespace Go.Proofs.Ytikpdhkjkmbomaa
open Go.RowKit
set_option linter.unusedVariables false

def nameP (k : Nat) : List UInt8 := [112, 48 + UInt8.ofNat k]
def simP (k : Nat) : SimD := ⟨nameP k, [], [], false⟩
def simsP (n : Nat) : List SimD := (List.range n).map simP
def opFrom : Nat → List Bool → List Int
  | _, [] => []
  | k, b :: l => if k < 4 ∧ b = true then (k : Int) :: opFrom (k + 1) l else opFrom (k + 1) l
def runOk (n : Nat) : List StepD → Nat → Bool
  | [], k => k == n
  | s :: l, k => if s.call.num = 3 then (decide (s.who = (k : Int) + 1) && (decide (k < n) && (decide (s.call.name = nameP k) && (if k + 1 = n then l.all (fun t => decide (t.who = 0)) else runOk n l (k + 1))))) else runOk n l k
def endOk (n : Nat) (l : List StepD) : Bool := (l.drop (l.length - n)).all (fun t => decide (t.who = 0) && decide (t.call.num = 4))
def planP (n : Nat) (op : List Int) : List StepD := (planM (simsP n) op).steps
def runsOk (n : Nat) (op : List Int) : Bool := let l := planP n op; runOk n l 0 && (endOk n l && (decide (3 * n ≤ l.length) && (decide (l.length ≤ 200) && decide (4 ≤ freeN (haveH op)))))
def allB (p : Bool → Bool) : Bool := p false && p true
theorem allB_at {p : Bool → Bool} (h : allB p = true) (b : Bool) : p b = true := by
  unfold allB at h
  rw [Bool.and_eq_true] at h
  cases b
  · exact h.1
  · exact h.2
def runsAll (n : Nat) : Bool := allB fun b0 => allB fun b1 => allB fun b2 => allB fun b3 => runsOk n (opFrom 0 [b0, b1, b2, b3])
theorem runs_1 : runsAll 1 = true := by kernel_rfl
theorem runs_2 : runsAll 2 = true := by kernel_rfl
theorem runs_3 : runsAll 3 = true := by kernel_rfl
theorem runs_4 : runsAll 4 = true := by kernel_rfl
theorem runs_5 : runsAll 5 = true := by kernel_rfl
theorem runs_6 : runsAll 6 = true := by kernel_rfl
theorem opFrom_end (l : List Bool) : ∀ k, 4 ≤ k → opFrom k l = [] := by
  induction l with
  | nil => intro k hk; rfl
  | cons b l ih =>
    intro k hk
    unfold opFrom
    rw [if_neg (by omega)]
    exact ih _ (by omega)
theorem opFrom_four (l : List Bool) : ∃ b0 b1 b2 b3, opFrom 0 l = opFrom 0 [b0, b1, b2, b3] := by
  match l with
  | [] => exact ⟨false, false, false, false, rfl⟩
  | [b0] => exact ⟨b0, false, false, false, by cases b0 <;> rfl⟩
  | [b0, b1] => exact ⟨b0, b1, false, false, by cases b0 <;> cases b1 <;> rfl⟩
  | [b0, b1, b2] => exact ⟨b0, b1, b2, false, by cases b0 <;> cases b1 <;> cases b2 <;> rfl⟩
  | b0 :: b1 :: b2 :: b3 :: l =>
    refine ⟨b0, b1, b2, b3, ?_⟩
    have h : opFrom 4 l = opFrom 4 [] := (opFrom_end l 4 (by omega)).trans rfl
    simp only [opFrom] at h ⊢
    rw [h]
/-- The law ShellRuns. -/
theorem runs_law (n : Nat) (h1 : 1 ≤ n) (h6 : n ≤ 6) (bs : List Bool) : runsOk n (opFrom 0 bs) = true := by
  obtain ⟨b0, b1, b2, b3, e⟩ := opFrom_four bs
  rw [e]
  have hr : runsAll n = true := by
    have : n = 1 ∨ n = 2 ∨ n = 3 ∨ n = 4 ∨ n = 5 ∨ n = 6 := by omega
    rcases this with rfl | rfl | rfl | rfl | rfl | rfl
    · exact runs_1
    · exact runs_2
    · exact runs_3
    · exact runs_4
    · exact runs_5
    · exact runs_6
  exact allB_at (allB_at (allB_at (allB_at hr b0) b1) b2) b3
end Go.Proofs.Ytikpdhkjkmbomaa
