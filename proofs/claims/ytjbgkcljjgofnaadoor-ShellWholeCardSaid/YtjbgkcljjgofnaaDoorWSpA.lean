/- Tokens in memory; what Split asks ahead: is all of it printable? -/
import Derived.Test.YtjbgkcljjgofnaaDoorWWord
import Derived.Test.YtjbgkcljjgofnaaDoorShelf
namespace Go.Proofs.YtjbgkcljjgofnaaDoor
open Go.RowKit
set_option linter.unusedVariables false

def Printable (s : List UInt8) : Prop := ∀ c ∈ s, 32 ≤ c.toNat ∧ c.toNat ≤ 126
def oddP (x : Nat) : Bool := decide (x < 32 ∨ 126 < x)
theorem odd_any (x : Nat) (hx : x ≤ 1114111) (w : World) : Calls Tryd.prog 20 #[.int .i32 (x : Int)] w fun e w' => e = .returned (.bool (oddP x)) ∧ w' = w := by
  have HD := hide (show oddP x = decide (x < 32 ∨ 126 < x) from rfl)
  generalize oddP x = b at *
  by_cases h1 : x < 32
  · have t1 : decide ((x : Int) < 32) = true := by simp; omega
    go_enter Tryd.func20, Tryd.ntmps20
    go_wp2_with fail
    go_ret
    exact ⟨by rw [show b = true from by rw [HD.out]; exact decide_eq_true (.inl h1)]; rfl, rfl⟩
  · have t1 : decide ((x : Int) < 32) = false := by simp; omega
    by_cases h2 : 126 < x
    · have t2 : decide ((126 : Int) < (x : Int)) = true := by simp; omega
      go_enter Tryd.func20, Tryd.ntmps20
      go_wp2_with fail
      go_ret
      exact ⟨by rw [show b = true from by rw [HD.out]; exact decide_eq_true (.inr h2)]; rfl, rfl⟩
    · have t2 : decide ((126 : Int) < (x : Int)) = false := by simp; omega
      go_enter Tryd.func20, Tryd.ntmps20
      go_wp2_with fail
      go_ret
      exact ⟨by rw [show b = false from by rw [HD.out]; exact decide_eq_false (by omega)]; rfl, rfl⟩
theorem idxFunc_none (s : List UInt8) (h : Printable s) : ∀ f pos, Lib.idxFuncFrom oddP true (str s) f pos = -1 := by
  intro f
  induction f with
  | zero => intro pos; rfl
  | succ f ih =>
    intro pos
    by_cases hp : pos < (str s).size
    · have hl : pos < s.length := by rw [← str_size s]; exact hp
      have hc := h s[pos] (List.getElem_mem hl)
      have e : ((str s)[pos]'hp) = s[pos] := rfl
      have hd := decode_ascii (str s) pos hp (by rw [e]; omega)
      rw [e] at hd
      have ho : oddP s[pos].toNat = false := decide_eq_false (by omega)
      unfold Lib.idxFuncFrom
      rw [if_pos hp, hd]
      dsimp only
      rw [ho, if_neg (by decide)]
      exact ih _
    · exact Lib.idxFuncFrom_end _ _ _ _ _ hp
theorem indexFunc_none (s : List UInt8) (h : Printable s) (w : World) : Calls Tryd.prog 19 #[.string (str s), .func (.func 20) #[] #[]] w fun e w' => e = .returned (.int .i64 (-1)) ∧ Ext w w' := by
  have hp : PredAtRunes Tryd.prog 20 #[] oddP w := fun W x hx hb => (odd_any x hx W).mono fun _ _ ⟨a, b⟩ => ⟨a, 0, b⟩
  have := Tryd.strings_IndexFunc_runes 20 #[] (fun args w => by kernel_rfl) oddP (str s) w hp
  refine this.mono fun e w' ⟨a, b⟩ => ⟨?_, b⟩
  rw [a]
  unfold Lib.idxFunc
  rw [idxFunc_none s h]
def tokC (x : TokD × Value) : List Value := [.string (str x.1.op), x.2, .int .i64 (x.1.at_ : Int)]
theorem tokC_len (x : TokD × Value) : (tokC x).length = 3 := rfl
def PartsAt (w : World) (B : Nat) (x : TokD × Value) : Prop := ∃ A c, x.2 = .slice A x.1.parts.length c ∧ w.ownsRow B 60 3 (.slice A x.1.parts.length c) x.1.parts.length (x.1.parts.flatMap partC)
theorem tok_info : (Tryd.prog.info? 47).map (fun i => (i.zero, i.size, i.bytes)) = some (some (.agg #[.string ⟨#[]⟩, .slice none 0 0, .int .i64 0]), 3, 48) := by kernel_rfl
structure ToksAt (w : World) (B : Nat) (A : Option Addr) (c : Nat) (ls : List (TokD × Value)) : Prop where
  own : w.ownsRow B 47 3 (.slice A ls.length c) ls.length (ls.flatMap tokC)
  parts : ∀ x ∈ ls, PartsAt w B x
section
variable {w w' : World} {B : Nat} {A : Option Addr} {c : Nat} {ls : List (TokD × Value)} {x : TokD × Value}
theorem ToksAt.nil (w : World) (B : Nat) : ToksAt w B none 0 [] := ⟨World.ownsRow_nil _ _ _ _, fun x h => by cases h⟩
theorem PartsAt.ext (h : PartsAt w B x) (hx : Ext w w') : PartsAt w' B x := by
  obtain ⟨A, c, e, h⟩ := h
  exact ⟨A, c, e, hx.own h⟩
theorem ToksAt.ext (h : ToksAt w B A c ls) (hx : Ext w w') : ToksAt w' B A c ls := ⟨hx.own h.own, fun x m => (h.parts x m).ext hx⟩
/-- Kept where another block, of another type, was written. -/
theorem PartsAt.kept {g : Nat} {t : TypeId} {cs : Array Value} (h : PartsAt w B x) (hg : w.grownBy w' (some g)) (hb : Blk w g t cs) (ht : t ≠ 60) : PartsAt w' B x := by
  obtain ⟨A, c, e, h⟩ := h
  exact ⟨A, c, e, h.kept hg (.inr (own_blk_ne h hb (Ne.symm ht)))⟩
theorem ToksAt.kept {g : Nat} {t : TypeId} {cs : Array Value} (h : ToksAt w B A c ls) (hg : w.grownBy w' (some g)) (hb : Blk w g t cs) (ht : t ≠ 60) (ht2 : t ≠ 47) : ToksAt w' B A c ls :=
  ⟨h.own.kept hg (.inr (own_blk_ne h.own hb (Ne.symm ht2))), fun x m => (h.parts x m).kept hg hb ht⟩
/-- One token more. -/
theorem ToksAt.more {A' : Option Addr} {c' : Nat} {U : World} (h : ToksAt w B A c ls) (hx : Ext w U) (hp : PartsAt w B x) (ho : w'.ownsRow B 47 3 (.slice A' (ls.length + 1) c') (ls.length + 1) (ls.flatMap tokC ++ tokC x)) (hg : U.grownBy w' (Value.ownBlock (.slice A ls.length c))) : ToksAt w' B A' c' (ls ++ [x]) := by
  have hou := hx.own h.own
  have key : ∀ y, PartsAt w B y → PartsAt w' B y := fun y hy => by
    obtain ⟨A2, c2, e, hy⟩ := hy.ext hx
    refine ⟨A2, c2, e, hy.kept hg ?_⟩
    cases hv : Value.ownBlock (.slice A ls.length c) with
    | none => cases hv2 : Value.ownBlock (.slice A2 y.1.parts.length c2) <;> simp
    | some g =>
      right
      rcases hou.2 with ⟨e2, -⟩ | ⟨g', cap, cur, e2, -, hb, -⟩
      · rw [e2] at hv; simp [Value.ownBlock] at hv
      · rw [e2] at hv
        have : g' = g := by simpa [Value.ownBlock] using hv
        subst this
        exact own_blk_ne hy hb (by decide)
  have hlen : (ls ++ [x]).length = ls.length + 1 := by simp
  refine ⟨?_, fun y hy => ?_⟩
  · rw [hlen, List.flatMap_append]
    simpa using ho
  · rcases List.mem_append.1 hy with hy | hy
    · exact key y (h.parts y hy)
    · rw [List.mem_singleton] at hy
      subst hy
      exact key _ hp
end
end Go.Proofs.YtjbgkcljjgofnaaDoor
