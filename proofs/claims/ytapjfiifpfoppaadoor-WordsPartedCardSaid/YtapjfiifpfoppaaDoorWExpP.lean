/- What words.Expand computes, in plain words. Plain theorems, no condition. -/
import Derived.Test.YtapjfiifpfoppaaDoorWPlain
namespace Go.Proofs.YtapjfiifpfoppaaDoor
open Go.RowKit
set_option linter.unusedVariables false

structure FldD where
  out : List (List UInt8)
  now : List UInt8
  some : Bool
def endF (f : FldD) : FldD := ⟨if f.some = true then f.out ++ [f.now] else f.out, [], false⟩
def addF (f : FldD) (s : List UInt8) : FldD := ⟨f.out, f.now ++ s, true⟩
def looseF (f : FldD) (s : List UInt8) : FldD := s.foldl (fun f c => if c.toNat = 32 then endF f else addF f [c]) f
structure VarD where
  name : List UInt8
  value : List UInt8
def findV (name : List UInt8) : List VarD → List UInt8
  | [] => []
  | v :: l => if v.name = name then v.value else findV name l
/-- A variable's value; st is the status as a text. -/
def valueD (name : List UInt8) (vars : List VarD) (st : List UInt8) : List UInt8 := if name = [63] then st else findV name vars
def stepF (vars : List VarD) (st : List UInt8) (f : FldD) (p : PartD) : FldD :=
  if p.var = true ∧ p.quoted = true then addF f (valueD p.text vars st)
  else if p.var = true then looseF f (valueD p.text vars st)
  else if p.quoted = true ∨ p.text ≠ [] then addF f p.text
  else f
def partsF (vars : List VarD) (st : List UInt8) (f : FldD) (ps : List PartD) : FldD := ps.foldl (stepF vars st) f
/-- The fields that a word comes to. -/
def fieldsD (ps : List PartD) (vars : List VarD) (st : List UInt8) : List (List UInt8) := (endF (partsF vars st ⟨[], [], false⟩ ps)).out
end Go.Proofs.YtapjfiifpfoppaaDoor
