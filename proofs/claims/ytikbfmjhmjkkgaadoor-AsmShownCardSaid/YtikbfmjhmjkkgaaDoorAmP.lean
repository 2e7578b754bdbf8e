/- Texts as instructions, in plain words: what a line puts into a unit, and what a word is shown as. Plain theorems, no program in sight. -/
import Derived.Test.YtikbfmjhmjkkgaaDoorAmBase
import Derived.Lib.AtoiAll
import Derived.Lib.Fields
import Derived.Lib.IndexMore
import Derived.Lib.ItoaNum
import Derived.Lib.Strings
namespace Go.Proofs.YtikbfmjhmjkkgaaDoor
set_option linter.unusedVariables false

/-- A unit. -/
structure UnD where
  code : List Nat
  marks : List (Bs × Nat)
  needs : List (Nat × Bs × Nat)
/-- The operations' names, and the fields that they have. -/
def rowsL : List (Bs × Nat) := [([104, 97, 108, 116], 0), ([115, 101, 116], 5), ([104, 105, 103, 104], 5), ([109, 111, 118, 101], 3), ([97, 100, 100], 3), ([115, 117, 98], 3), ([109, 117, 108], 3), ([100, 105, 118], 3), ([97, 110, 100], 3), ([111, 114], 3), ([120, 111, 114], 3), ([108, 101, 102, 116], 3), ([114, 105, 103, 104, 116], 3), ([112, 108, 117, 115], 7), ([108, 111, 97, 100], 7), ([108, 111, 97, 100, 98], 7), ([115, 116, 111, 114, 101], 7), ([115, 116, 111, 114, 101, 98], 7), ([106, 117, 109, 112], 4), ([122, 101, 114, 111], 5), ([108, 101, 115, 115], 7), ([99, 97, 108, 108], 5), ([98, 97, 99, 107], 1), ([115, 121, 115], 0), ([115, 119, 97, 112], 7), ([104, 111, 109, 101], 1)]
def rowN (op : Nat) : Bs × Nat := if op = 0 then ([], 0) else rowsL.getD (op - 1) ([], 0)
/-- The operation of a name; 0: there is none. -/
def numOf (s : Bs) : Nat := if rowsL.findIdx (fun r => r.1 == s) < 26 then rowsL.findIdx (fun r => r.1 == s) + 1 else 0
/-- A numeral, as Itoa writes it, within bounds. -/
def numB (s : Bs) (lo hi : Int) : Option Int :=
  match Go.Lib.atoiAll s with
  | .ok v => if Go.Lib.itoa v = s ∧ lo ≤ v ∧ v ≤ hi then some v else none
  | _ => none
def opW (op a b : Nat) (c : Int) : Nat := op * 16777216 + a * 1048576 + b * 65536 + (c % 65536).toNat
def UnD.put (u : UnD) (w : Nat) (need : Bs) (kind : Nat) : UnD := ⟨u.code ++ [w], u.marks, if need = [] then u.needs else u.needs ++ [(4 * u.code.length, need, kind)]⟩
def regT (has : Bool) (f : List Bs) : Option (Nat × List Bs) :=
  if has = true then
    match f with
    | [] => none
    | s :: r => if regB s = true then some ((s.getD 1 0).toNat - 48, r) else none
  else some (0, f)
def lastT (has : Bool) (f : List Bs) : Option (Int × Bs × List Bs) :=
  if has = true then
    match f with
    | [] => none
    | s :: r =>
      match numB s (-32768) 32767 with
      | some n => some (n, [], r)
      | none => if nameB s = true then some (0, s, r) else none
  else some (0, [], f)
def nearB (op : Nat) : Bool := decide (op = 19 ∨ op = 20 ∨ op = 21 ∨ op = 22)
def kindN (op : Nat) : Nat := if nearB op = true then 1 else 2
def bitB (n k : Nat) : Bool := decide (n / k % 2 = 1)
def orderL (u : UnD) (name : Bs) (f : List Bs) : Option UnD :=
  if numOf name = 0 then none
  else (regT (bitB (rowN (numOf name)).2 1) f).bind fun x => (regT (bitB (rowN (numOf name)).2 2) x.2).bind fun y => (lastT (bitB (rowN (numOf name)).2 4) y.2).bind fun z =>
    if z.2.2 = [] then some (u.put (opW (numOf name) x.1 y.1 z.1) z.2.1 (kindN (numOf name))) else none
def wordL' (u : UnD) (f : List Bs) : Option UnD :=
  match f with
  | [s] =>
    if nameB s = true then some (u.put 0 s 3)
    else match numB s 0 4294967295 with
      | some n => some (u.put n.toNat [] 0)
      | none => none
  | _ => none
/-- A line: the unit behind it, or an error. -/
inductive Res where
  | ok (u : UnD)
  | err (e : Nat)
def Res.of : Option UnD → Res
  | some u => .ok u
  | none => .err 22
def markL (u : UnD) (name : Bs) : Res :=
  if nameB name = true then
    if (u.marks.any fun m => m.1 == name) = true then .err 5 else .ok ⟨u.code, u.marks ++ [(name, 4 * u.code.length)], u.needs⟩
  else .err 22
def instL (u : UnD) (f : List Bs) : Res :=
  match f with
  | [] => .ok u
  | a :: r => if u.code.length = 128 then .err 2 else if a = [119, 111, 114, 100] then Res.of (wordL' u r) else Res.of (orderL u a r)
def okCh (c : UInt8) : Bool := decide (c.toNat = 9 ∨ (32 ≤ c.toNat ∧ c.toNat ≤ 126))
def fieldsL (u : UnD) (f : List Bs) : Res :=
  match f with
  | [] => .ok u
  | a :: r =>
    if Go.Lib.hasSuffix a [58] = true then
      match markL u (Go.Lib.trimSuffix a [58]) with
      | .ok u' => instL u' r
      | .err e => .err e
    else instL u (a :: r)
def lineL (u : UnD) (s : Bs) : Res := if s.all okCh = true then fieldsL u (Go.Lib.fields (Go.Lib.cut s [59]).1) else .err 22
/-- Lines: the unit behind them, or the first line that is wrong, with its error. -/
inductive Out where
  | ok (u : UnD)
  | err (line e : Nat)
def linesL (k : Nat) (u : UnD) : List Bs → Out
  | [] => .ok u
  | s :: r =>
    match lineL u s with
    | .ok u' => linesL (k + 1) u' r
    | .err e => .err (k + 1) e
/-- What is near, and known, is put in. -/
def placeN (w pos to : Nat) : Nat := if -32768 ≤ (to : Int) - pos ∧ (to : Int) - pos ≤ 32767 then w / 65536 * 65536 + (((to : Int) - pos) % 65536).toNat else 0
def atM (ms : List (Bs × Nat)) : Bs → Option Int := ms.foldl (fun f m => updS f m.1 (some (m.2 : Int))) fun _ => none
def settleS (ms : List (Bs × Nat)) (st : List Nat × List (Nat × Bs × Nat)) (n : Nat × Bs × Nat) : List Nat × List (Nat × Bs × Nat) :=
  match atM ms n.2.1 with
  | some to => if n.2.2 = 1 then (st.1.set (n.1 / 4) (placeN (st.1.getD (n.1 / 4) 0) n.1 to.toNat), st.2) else (st.1, st.2 ++ [n])
  | none => (st.1, st.2 ++ [n])
def settleL (u : UnD) : UnD := ⟨(u.needs.foldl (settleS u.marks) (u.code, [])).1, u.marks, (u.needs.foldl (settleS u.marks) (u.code, [])).2⟩
def unit0 : UnD := ⟨[], [], []⟩
end Go.Proofs.YtikbfmjhmjkkgaaDoor
