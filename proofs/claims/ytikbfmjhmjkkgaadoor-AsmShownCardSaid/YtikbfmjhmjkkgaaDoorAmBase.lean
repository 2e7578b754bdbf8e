/- Names of places and of registers, in plain words. Plain theorems. -/
import Derived.Test.YtikbfmjhmjkkgaaDoorRows
import Derived.Test.YtikbfmjhmjkkgaaDoorMem
import Derived.Test.YtikbfmjhmjkkgaaDoorStr
namespace Go.Proofs.YtikbfmjhmjkkgaaDoor
open Go.RowKit
set_option linter.unusedVariables false

abbrev Bs := List UInt8
theorem str_list (l : Bs) : (str l).data.toList = l := by simp [str]
def updS {α : Type} (f : Bs → α) (o : Bs) (v : α) : Bs → α := fun x => if x = o then v else f x
theorem updS_same {α : Type} (f : Bs → α) (o : Bs) (v : α) : updS f o v o = v := by simp [updS]
theorem updS_other {α : Type} (f : Bs → α) (o x : Bs) (v : α) (h : x ≠ o) : updS f o v x = f x := by simp [updS, h]
/-- A register's name; a name that may be. -/
def regB (s : Bs) : Bool := decide (s.length = 2 ∧ (s.getD 0 0).toNat = 114 ∧ 48 ≤ (s.getD 1 0).toNat ∧ (s.getD 1 0).toNat < 56)
def chB (i : Nat) (c : UInt8) : Bool := decide ((97 ≤ c.toNat ∧ c.toNat ≤ 122) ∨ c.toNat = 95 ∨ (i ≠ 0 ∧ 48 ≤ c.toNat ∧ c.toNat ≤ 57))
def chsB : Nat → Bs → Bool
  | _, [] => true
  | i, c :: s => chB i c && chsB (i + 1) s
def nameB (s : Bs) : Bool := decide (1 ≤ s.length ∧ s.length ≤ 12) && (!regB s && chsB 0 s)
end Go.Proofs.YtikbfmjhmjkkgaaDoor
