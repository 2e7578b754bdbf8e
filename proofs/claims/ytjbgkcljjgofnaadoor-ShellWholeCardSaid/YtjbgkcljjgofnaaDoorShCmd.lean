/- The contract of the parser's cmd. -/
import Derived.Test.YtjbgkcljjgofnaaDoorShBack
import Derived.Deep.RegionHeld3
import Derived.Deep.LoopGhost
namespace Go.Proofs.YtjbgkcljjgofnaaDoor
open Go.RowKit
set_option linter.unusedVariables false

abbrev cmdT : TypeId := 52
def redC (r : List UInt8 × Tk) : List Value := [.string (str r.1), .string (str r.2.1.op), r.2.2, .int .i64 (r.2.1.at_ : Int)]
theorem redC_len (r : List UInt8 × Tk) : (redC r).length = 4 := rfl
theorem red_info : (Tryd.prog.info? 54).map (fun i => (i.zero, i.size, i.bytes)) = some (some (.agg #[.string ⟨#[]⟩, .string ⟨#[]⟩, .slice none 0 0, .int .i64 0]), 4, 64) := by kernel_rfl
theorem own_own_ne {w : World} {base base' : Nat} {e e' : TypeId} {s s' n n' : Nat} {v v' : Value} {xs xs' : List Value} (h : w.ownsRow base e s v n xs) (h' : w.ownsRow base' e' s' v' n' xs') (hne : e ≠ e') : ∀ j, v.ownBlock = some j → v'.ownBlock ≠ some j := by
  intro j hj
  rcases h'.2 with ⟨rfl, _⟩ | ⟨g, cap, cur, rfl, hb, hg, _⟩
  · simp [Value.ownBlock]
  · intro e1
    simp only [Value.ownBlock, Option.some.injEq] at e1
    subst e1
    exact own_blk_ne h (show Blk w g e' cur from hg) hne hj
/-- A command in the making: its box at gc, its rows above B. -/
structure CmdBox (w : World) (B gc : Nat) (c : CmdJ Tk) (A1 : Option Addr) (n1 c1 : Nat) (A2 : Option Addr) (n2 c2 : Nat) : Prop where
  blk : Blk w gc cmdT #[.slice A1 n1 c1, .slice A2 n2 c2]
  words : w.ownsRow B 47 3 (.slice A1 n1 c1) n1 (c.words.flatMap tokC)
  reds : w.ownsRow B 54 4 (.slice A2 n2 c2) n2 (c.redirs.flatMap redC)
theorem own_kept' {w w' : World} {base size n : Nat} {e : TypeId} {v : Value} {xs : List Value} {row : Option Nat} (h : w.ownsRow base e size v n xs) (hg : w.grownBy w' row) (hne : ∀ j, v.ownBlock = some j → row ≠ some j) : w'.ownsRow base e size v n xs :=
  h.kept hg (by
    cases hv : v.ownBlock with
    | none => simp
    | some j => exact .inr (fun e => hne j hv e.symm))
section
variable {w w' : World} {B gc : Nat} {c : CmdJ Tk} {A1 A2 : Option Addr} {n1 c1 n2 c2 : Nat} {row : Option Nat}
theorem CmdBox.grown (h : CmdBox w B gc c A1 n1 c1 A2 n2 c2) (hg : w.grownBy w' row) (hr : ∀ j, row = some j → j < B ∧ j ≠ gc) : CmdBox w' B gc c A1 n1 c1 A2 n2 c2 where
  blk := h.blk.grown hg (fun e => (hr gc e.symm).2 rfl)
  words := own_kept' h.words hg (fun j hj e => by have := (hr j e).1; have := (h.words.lt j hj).1; omega)
  reds := own_kept' h.reds hg (fun j hj e => by have := (hr j e).1; have := (h.reds.lt j hj).1; omega)
theorem CmdBox.ext (h : CmdBox w B gc c A1 n1 c1 A2 n2 c2) (hx : Ext w w') : CmdBox w' B gc c A1 n1 c1 A2 n2 c2 := h.grown (grown_of_ext hx none) (by simp)
/-- One more word: its row was added to and its slice laid into the box. -/
theorem CmdBox.word (h : CmdBox w B gc c A1 n1 c1 A2 n2 c2) {A' : Option Addr} {n' c' : Nat} {t : Tk} (ho : w'.ownsRow B 47 3 (.slice A' n' c') n' ((c.words ++ [t]).flatMap tokC)) (hg : w.grownBy w' (Value.ownBlock (.slice A1 n1 c1))) (hB : gc < B) :
    CmdBox (w'.setCell ⟨gc, 0, none⟩ (.slice A' n' c')) B gc ⟨c.words ++ [t], c.redirs⟩ A' n' c' A2 n2 c2 where
  blk := (h.blk.grown hg (fun e => own_blk_ne h.words h.blk (by decide) e.symm)).set_ 0 _
  words := own_far ho (fun e => by have := (ho.lt _ e).1; simp at this; omega) _
  reds := own_far (own_kept' h.reds hg (fun j hj e => own_own_ne h.reds h.words (by decide) j hj e)) (fun e => by have := (h.reds.lt _ e).1; simp at this; omega) _
/-- One more redirection. -/
theorem CmdBox.red (h : CmdBox w B gc c A1 n1 c1 A2 n2 c2) {A' : Option Addr} {n' c' : Nat} {t : List UInt8 × Tk} (ho : w'.ownsRow B 54 4 (.slice A' n' c') n' ((c.redirs ++ [t]).flatMap redC)) (hg : w.grownBy w' (Value.ownBlock (.slice A2 n2 c2))) (hB : gc < B) :
    CmdBox (w'.setCell ⟨gc, 1, none⟩ (.slice A' n' c')) B gc ⟨c.words, c.redirs ++ [t]⟩ A1 n1 c1 A' n' c' where
  blk := (h.blk.grown hg (fun e => own_blk_ne h.reds h.blk (by decide) e.symm)).set_ 1 _
  words := own_far (own_kept' h.words hg (fun j hj e => own_own_ne h.words h.reds (by decide) j hj e)) (fun e => by have := (h.words.lt _ e).1; simp at this; omega) _
  reds := own_far ho (fun e => by have := (ho.lt _ e).1; simp at this; omega) _
theorem ParAt.ext {gp : Nat} {A : Option Addr} {n c k : Nat} {ls : List Tk} (h : ParAt w gp A n c ls k) (hx : Ext w w') : ParAt w' gp A n c ls k := h.grown (grown_of_ext hx none) (by simp)
end
/-- A command as it is handed on: its rows lie above B. -/
structure CmdAt (w : World) (B : Nat) (c : CmdJ Tk) (A1 : Option Addr) (n1 c1 : Nat) (A2 : Option Addr) (n2 c2 : Nat) : Prop where
  words : w.ownsRow B 47 3 (.slice A1 n1 c1) n1 (c.words.flatMap tokC)
  reds : w.ownsRow B 54 4 (.slice A2 n2 c2) n2 (c.redirs.flatMap redC)
  lw : c.words.length = n1
  lr : c.redirs.length = n2
theorem CmdAt.grown {w w' : World} {B : Nat} {c : CmdJ Tk} {A1 A2 : Option Addr} {n1 c1 n2 c2 : Nat} {row : Option Nat} (h : CmdAt w B c A1 n1 c1 A2 n2 c2) (hg : w.grownBy w' row) (hr : ∀ j, row = some j → j < B) : CmdAt w' B c A1 n1 c1 A2 n2 c2 where
  words := own_kept' h.words hg (fun j hj e => by have := hr j e; have := (h.words.lt j hj).1; omega)
  reds := own_kept' h.reds hg (fun j hj e => by have := hr j e; have := (h.reds.lt j hj).1; omega)
  lw := h.lw
  lr := h.lr
theorem CmdAt.lower {w : World} {B B' : Nat} {c : CmdJ Tk} {A1 A2 : Option Addr} {n1 c1 n2 c2 : Nat} (h : CmdAt w B c A1 n1 c1 A2 n2 c2) (hB : B' ≤ B) : CmdAt w B' c A1 n1 c1 A2 n2 c2 := ⟨own_mono h.words hB, own_mono h.reds hB, h.lw, h.lr⟩
def CmdPost (w : World) (gp : Nat) (A : Option Addr) (n cp : Nat) (ls : List Tk) (X : Option (CmdJ Tk) × List Tk) (e : Ending) (w' : World) : Prop :=
  ∃ (k : Nat) (A1 : Option Addr) (n1 c1 : Nat) (A2 : Option Addr) (n2 c2 : Nat), e = .returned (.tuple #[.agg #[.slice A1 n1 c1, .slice A2 n2 c2], .bool X.1.isSome]) ∧ X.2 = ls.drop k ∧ ParAt w' gp A n cp ls k ∧ w.grownBy w' (some gp) ∧ ∀ c, X.1 = some c → CmdAt w' w.heap.size c A1 n1 c1 A2 n2 c2
def CmdRel (w : World) (gp : Nat) (A : Option Addr) (n cp : Nat) (ls : List Tk) (X : Option (CmdJ Tk) × List Tk) (gr gc g : Nat) (v5 : Value) (wr : World) : Prop :=
  ∃ (F k : Nat) (c : CmdJ Tk) (A1 : Option Addr) (n1 c1 : Nat) (A2 : Option Addr) (n2 c2 : Nat), F = g ∧ cmdP oT F (ls.drop k) c = X ∧ n - k < F ∧ ParAt wr gp A n cp ls k ∧ CmdBox wr (gc + 1) gc c A1 n1 c1 A2 n2 c2 ∧ Blk wr gr cmdT #[.slice none 0 0, .slice none 0 0] ∧ c.words.length = n1 ∧ c.redirs.length = n2 ∧ n1 + n2 ≤ k ∧ w.grownBy wr (some gp)
/-- A command and where its rows lie. -/
structure CmdV where
  c : CmdJ Tk
  A1 : Option Addr
  n1 : Nat
  c1 : Nat
  A2 : Option Addr
  n2 : Nat
  c2 : Nat
def cmdVC (x : CmdV) : List Value := [.slice x.A1 x.n1 x.c1, .slice x.A2 x.n2 x.c2]
theorem cmdVC_len (x : CmdV) : (cmdVC x).length = 2 := rfl
def CmdV.At (w : World) (B : Nat) (x : CmdV) : Prop := CmdAt w B x.c x.A1 x.n1 x.c1 x.A2 x.n2 x.c2
/-- The commands of a pipe as they lie in memory. -/
structure CmdsAt (w : World) (B : Nat) (cs : List (CmdJ Tk)) (A : Option Addr) (n c : Nat) (vs : List CmdV) : Prop where
  row : w.ownsRow B cmdT 2 (.slice A n c) n (vs.flatMap cmdVC)
  each : ∀ v ∈ vs, v.At w B
  map : vs.map (·.c) = cs
theorem CmdsAt.grown {w w' : World} {B : Nat} {cs : List (CmdJ Tk)} {A : Option Addr} {n c : Nat} {vs : List CmdV} {row : Option Nat} (h : CmdsAt w B cs A n c vs) (hg : w.grownBy w' row) (hr : ∀ j, row = some j → j < B) : CmdsAt w' B cs A n c vs where
  row := own_kept' h.row hg (fun j hj e => by have := hr j e; have := (h.row.lt j hj).1; omega)
  each := fun v hv => CmdAt.grown (h.each v hv) hg hr
  map := h.map
end Go.Proofs.YtjbgkcljjgofnaaDoor
