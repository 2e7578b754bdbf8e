/- What shell.Plan computes, in plain words: steps, descriptors, makers. Plain theorems, no condition. -/
import Derived.Test.YtikpdhkjkmbomaaArr
namespace Go.Proofs.Ytikpdhkjkmbomaa
open Go.RowKit
set_option linter.unusedVariables false

structure CallD where
  num : Int
  a : Int
  b : Int
  c : Int
  name : List UInt8
structure StepD where
  who : Int
  call : CallD
structure SimD where
  arg : List UInt8
  inn : List UInt8
  out : List UInt8
  more : Bool
structure MkD where
  who : Int
  hv : Nat → Bool
  steps : List StepD
def stepM (m : MkD) (c : CallD) : MkD := { m with steps := m.steps ++ [⟨m.who, c⟩] }
def idxB (v : Bool) : List Bool → Int → Int
  | [], _ => -1
  | b :: l, k => if v = b then k else idxB v l (k + 1)
def listH (h : Nat → Bool) : List Bool := [h 0, h 1, h 2, h 3, h 4, h 5, h 6, h 7]
def freeI (h : Nat → Bool) : Int := idxB false (listH h) 0
def leastM (m : MkD) : MkD := if 0 ≤ freeI m.hv then { m with hv := updN m.hv (freeI m.hv).toNat true } else m
def shutM (m : MkD) (n : Int) : MkD := if 0 ≤ n ∧ m.hv n.toNat = true then { (stepM m ⟨6, n, 0, 0, []⟩) with hv := updN m.hv n.toNat false } else m
def turnM (m : MkD) (x : Int) (y : Nat) : MkD := if x < 0 ∨ x = (y : Int) then m else shutM { (stepM m ⟨11, x, y, 0, []⟩) with hv := updN m.hv y true } x
def fileM (m : MkD) (name : List UInt8) (y : Nat) (mode flags : Int) : MkD :=
  turnM (leastM (stepM (shutM m y) ⟨5, mode, flags, if flags ≠ 0 then 438 else 0, name⟩)) (freeI (shutM m y).hv) y
def ownIn (m : MkD) (s : SimD) : MkD := if s.inn ≠ [] then fileM m s.inn 0 1 0 else m
def ownOut (m : MkD) (s : SimD) : MkD := if s.out ≠ [] then fileM m s.out 1 2 (if s.more = true then 9 else 5) else m
/-- What the child's own maker holds before it runs its program. -/
def kidM (m : MkD) (who : Int) (s : SimD) (x y z : Int) : MkD := ownOut (ownIn (turnM (turnM (shutM { m with who := who } z) x 0) y 1) s) s
def childM (m : MkD) (who : Int) (s : SimD) (x y z : Int) : MkD := { m with steps := (stepM (kidM m who s x y z) ⟨3, 0, 0, 0, s.arg⟩).steps }
def pipeM (m : MkD) : MkD := leastM (leastM (stepM m ⟨10, 0, 0, 0, []⟩))
def roundM (m : MkD) (who : Int) (s : SimD) (last : Bool) (x : Int) : MkD × Int :=
  if last = true then (shutM (shutM (childM (stepM m ⟨2, 0, 0, 0, []⟩) who s x (-1) (-1)) x) (-1), -1)
  else
    let r := freeI m.hv
    let y := freeI (leastM m).hv
    (shutM (shutM (childM (stepM (pipeM m) ⟨2, 0, 0, 0, []⟩) who s x y r) x) y, r)
def planL : List SimD → Int → MkD × Int → MkD × Int
  | [], _, x => x
  | s :: l, k, x => planL l (k + 1) (roundM x.1 k s (decide (l = [])) x.2)
def waitsM (m : MkD) : Nat → MkD
  | 0 => m
  | k + 1 => waitsM (stepM m ⟨4, 0, 0, 0, []⟩) k
def haveH (l : List Int) : Nat → Bool := l.foldl (fun h n => updN h n.toNat true) (fun _ => false)
def freeN (h : Nat → Bool) : Nat := ((listH h).filter (fun b => b = false)).length
def planM (l : List SimD) (op : List Int) : MkD := waitsM (planL l 1 (⟨0, haveH op, []⟩, -1)).1 l.length
section
variable (m : MkD)
theorem idxB_ge (v : Bool) (l : List Bool) : ∀ k : Int, 0 ≤ k → -1 ≤ idxB v l k ∧ idxB v l k < k + l.length := by
  induction l with
  | nil => intro k hk; simp [idxB]; omega
  | cons b l ih =>
    intro k hk
    simp only [idxB, List.length_cons]
    split
    · omega
    · have := ih (k + 1) (by omega)
      omega
theorem freeI_ge (h : Nat → Bool) : -1 ≤ freeI h ∧ freeI h < 8 := by
  have := idxB_ge false (listH h) 0 (by omega)
  simpa [freeI, listH] using this
theorem step_len (c : CallD) : (stepM m c).steps.length = m.steps.length + 1 := by simp [stepM]
theorem least_steps : (leastM m).steps = m.steps := by unfold leastM; split <;> rfl
theorem least_who : (leastM m).who = m.who := by unfold leastM; split <;> rfl
theorem shut_len (n : Int) : (shutM m n).steps.length ≤ m.steps.length + 1 := by
  unfold shutM
  split
  · show (stepM m _).steps.length ≤ _
    rw [step_len]
    omega
  · omega
theorem turn_len (x : Int) (y : Nat) : (turnM m x y).steps.length ≤ m.steps.length + 2 := by
  unfold turnM
  split
  · omega
  · refine Nat.le_trans (shut_len _ _) ?_
    show (stepM m _).steps.length + 1 ≤ _
    rw [step_len]
    omega
theorem file_len (name : List UInt8) (y : Nat) (mode flags : Int) : (fileM m name y mode flags).steps.length ≤ m.steps.length + 4 := by
  unfold fileM
  refine Nat.le_trans (turn_len _ _ _) ?_
  rw [least_steps, step_len]
  have := shut_len m (y : Int)
  omega
theorem ownIn_len (s : SimD) : (ownIn m s).steps.length ≤ m.steps.length + 4 := by
  unfold ownIn
  split
  · exact file_len ..
  · omega
theorem ownOut_len (s : SimD) : (ownOut m s).steps.length ≤ m.steps.length + 4 := by
  unfold ownOut
  split
  · exact file_len ..
  · omega
theorem kid_len (who : Int) (s : SimD) (x y z : Int) : (kidM m who s x y z).steps.length ≤ m.steps.length + 13 := by
  unfold kidM
  refine Nat.le_trans (ownOut_len _ _) ?_
  refine Nat.le_trans (Nat.add_le_add_right (ownIn_len _ _) 4) ?_
  have h1 := turn_len (turnM (shutM { m with who := who } z) x 0) y 1
  have h2 := turn_len (shutM { m with who := who } z) x 0
  have h3 : (shutM { m with who := who } z).steps.length ≤ m.steps.length + 1 := shut_len { m with who := who } z
  omega
theorem child_len (who : Int) (s : SimD) (x y z : Int) : (childM m who s x y z).steps.length ≤ m.steps.length + 14 := by
  show (stepM (kidM m who s x y z) _).steps.length ≤ _
  rw [step_len]
  have := kid_len m who s x y z
  omega
theorem round_len (who : Int) (s : SimD) (last : Bool) (x : Int) : (roundM m who s last x).1.steps.length ≤ m.steps.length + 18 := by
  unfold roundM
  split
  · have h1 := child_len (stepM m ⟨2, 0, 0, 0, []⟩) who s x (-1) (-1)
    rw [step_len] at h1
    have h2 := shut_len (childM (stepM m ⟨2, 0, 0, 0, []⟩) who s x (-1) (-1)) x
    have h3 := shut_len (shutM (childM (stepM m ⟨2, 0, 0, 0, []⟩) who s x (-1) (-1)) x) (-1)
    dsimp only at h3 ⊢
    omega
  · have h1 := child_len (stepM (pipeM m) ⟨2, 0, 0, 0, []⟩) who s x (freeI (leastM m).hv) (freeI m.hv)
    rw [step_len] at h1
    have h2 := shut_len (childM (stepM (pipeM m) ⟨2, 0, 0, 0, []⟩) who s x (freeI (leastM m).hv) (freeI m.hv)) x
    have h3 := shut_len (shutM (childM (stepM (pipeM m) ⟨2, 0, 0, 0, []⟩) who s x (freeI (leastM m).hv) (freeI m.hv)) x) (freeI (leastM m).hv)
    have e : (pipeM m).steps.length = m.steps.length + 1 := by
      unfold pipeM
      rw [least_steps, least_steps, step_len]
    dsimp only at h3 ⊢
    omega
end
end Go.Proofs.Ytikpdhkjkmbomaa
