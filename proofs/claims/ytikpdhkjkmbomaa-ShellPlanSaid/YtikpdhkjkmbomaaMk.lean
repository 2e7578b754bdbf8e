/- Memory of shell.maker, and the contracts of its methods. -/
import Derived.Test.YtikpdhkjkmbomaaMkPlain
import Derived.Test.YtikpdhkjkmbomaaStr
import Derived.WalkKit
import Derived.WalkSpells
import Derived.ProofKit
import Derived.BigQuiet
import Derived.Deep.RegionHeld3
import Derived.Deep.CutBlock
import Derived.Deep.DeepCutAuto
import Derived.Deep.QuietTactic
namespace Go.Proofs.Ytikpdhkjkmbomaa
open Go.RowKit
set_option linter.unusedVariables false

theorem Blk.rowsF {w : World} {g : Nat} {t : TypeId} {cs : Array Value} (h : Blk w g t cs) (n size : Nat) (hs : cs.size = n * size) : Reads w w.heap.size size (some ⟨g, 0, none⟩) n cs.toList := by
  refine ⟨by simpa using hs, fun _ => ⟨_, rfl, h.lt, fun j u hu => ?_⟩⟩
  rw [add_lit, Nat.zero_add, h.cell]
  simpa using hu
abbrev stepT : TypeId := 38
def stepC (s : StepD) : List Value := [.int .i64 s.who, .int .i64 s.call.num, .int .i64 s.call.a, .int .i64 s.call.b, .int .i64 s.call.c, .string (str s.call.name), .string (str []), .slice none 0 0]
theorem stepC_len (s : StepD) : (stepC s).length = 8 := rfl
theorem step_info : (Try.prog.info? 38).map (fun i => (i.zero, i.size, i.bytes)) = some (some (.agg #[.int .i64 0, .int .i64 0, .int .i64 0, .int .i64 0, .int .i64 0, .string ⟨#[]⟩, .string ⟨#[]⟩, .slice none 0 0]), 8, 96) := by kernel_rfl
def makerC (gs : Nat) (m : MkD) : Array Value := #[.pointer (some ⟨gs, 0, none⟩), .int .i64 m.who, .bool (m.hv 0), .bool (m.hv 1), .bool (m.hv 2), .bool (m.hv 3), .bool (m.hv 4), .bool (m.hv 5), .bool (m.hv 6), .bool (m.hv 7)]
abbrev Track := Nat → Option (TypeId × Array Value)
/-- The steps so far lie behind block gs; T says what other blocks hold. -/
structure StM (w0 : World) (gs : Nat) (T : Track) (L : List StepD) (w : World) : Prop where
  box : ∃ A c, Blk w gs 30 #[.slice A L.length c] ∧ w.ownsRow w0.heap.size 38 8 (.slice A L.length c) L.length (L.flatMap stepC)
  tr : ∀ g t cs, T g = some (t, cs) → Blk w g t cs ∧ g ≠ gs ∧ t ≠ 38 ∧ w0.heap.size ≤ g
  base : w0.heap.size ≤ gs
  ext : Ext w0 w
def mkT (T : Track) (gs gm : Nat) (m : MkD) : Track := updN T gm (some (60, makerC gs m))
def MkAt (w0 : World) (gs gm : Nat) (T : Track) (m : MkD) (w : World) : Prop := StM w0 gs (mkT T gs gm m) m.steps w
section
variable {w0 w w' : World} {gs gm : Nat} {T : Track} {L : List StepD} {m : MkD}
theorem StM.extend (h : StM w0 gs T L w) (hx : Ext w w') : StM w0 gs T L w' := by
  obtain ⟨A, c, h1, h2⟩ := h.box
  exact ⟨⟨A, c, h1.ext hx, hx.own h2⟩, fun g t cs e => by obtain ⟨k1, k2⟩ := h.tr g t cs e; exact ⟨k1.ext hx, k2⟩, h.base, h.ext.trans hx⟩
theorem StM.fresh (h : StM w0 gs T L w) : T w.heap.size = none := by
  cases e : T w.heap.size with
  | none => rfl
  | some x =>
    obtain ⟨t, cs⟩ := x
    have := (h.tr _ _ _ e).1.lt
    omega
theorem StM.put (h : StM w0 gs T L w) {g : Nat} {t : TypeId} {cs : Array Value} (hb : Blk w g t cs) (hne : g ≠ gs) (ht : t ≠ 38) (hg : w0.heap.size ≤ g) : StM w0 gs (updN T g (some (t, cs))) L w := by
  refine ⟨h.box, fun g' t' cs' e => ?_, h.base, h.ext⟩
  by_cases hgg : g' = g
  · subst hgg
    rw [updN_same] at e
    injection e with e
    injection e with e1 e2
    subst e1 e2
    exact ⟨hb, hne, ht, hg⟩
  · rw [updN_other _ _ _ _ hgg] at e
    exact h.tr _ _ _ e
theorem StM.less {T' : Track} (h : StM w0 gs T L w) (hT : ∀ g x, T' g = some x → T g = some x) : StM w0 gs T' L w := ⟨h.box, fun g t cs e => h.tr g t cs (hT g _ e), h.base, h.ext⟩
theorem mkT_at : mkT T gs gm m gm = some (60, makerC gs m) := updN_same _ _ _
theorem MkAt.maker (h : MkAt w0 gs gm T m w) : Blk w gm 60 (makerC gs m) ∧ gm ≠ gs ∧ w0.heap.size ≤ gm := by
  obtain ⟨h1, h2, -, h3⟩ := h.tr gm _ _ mkT_at
  exact ⟨h1, h2, h3⟩
theorem MkAt.extend (h : MkAt w0 gs gm T m w) (hx : Ext w w') : MkAt w0 gs gm T m w' := StM.extend h hx
theorem makerC_set (n : Nat) (hn : n < 8) (b : Bool) : (makerC gs m).setIfInBounds (2 + n) (.bool b) = makerC gs { m with hv := updN m.hv n b } := by
  have : n = 0 ∨ n = 1 ∨ n = 2 ∨ n = 3 ∨ n = 4 ∨ n = 5 ∨ n = 6 ∨ n = 7 := by omega
  rcases this with rfl | rfl | rfl | rfl | rfl | rfl | rfl | rfl <;> rfl
theorem makerC_at (n : Nat) (hn : n < 8) : (makerC gs m)[2 + n]? = some (.bool (m.hv n)) := by
  have : n = 0 ∨ n = 1 ∨ n = 2 ∨ n = 3 ∨ n = 4 ∨ n = 5 ∨ n = 6 ∨ n = 7 := by omega
  rcases this with rfl | rfl | rfl | rfl | rfl | rfl | rfl | rfl <;> rfl
/-- A descriptor is marked. -/
theorem MkAt.mark (h : MkAt w0 gs gm T m w) (n : Nat) (hn : n < 8) (b : Bool) : MkAt w0 gs gm T { m with hv := updN m.hv n b } (w.setCell ⟨gm, 2 + n, none⟩ (.bool b)) := by
  obtain ⟨hb, hne, hlo⟩ := h.maker
  obtain ⟨A, c, h1, h2⟩ := h.box
  have ho : Value.ownBlock (.slice A m.steps.length c) ≠ some gm := own_blk_ne h2 hb (by decide)
  refine ⟨⟨A, c, h1.far (Ne.symm hne) _, own_far h2 ho _⟩, fun g t cs e => ?_, h.base, h.ext.setCell hlo _⟩
  by_cases hgg : g = gm
  · subst hgg
    have e' : some (60, makerC gs { m with hv := updN m.hv n b }) = some (t, cs) := (updN_same T g _).symm.trans e
    injection e' with e'
    injection e' with e1 e2
    subst e1 e2
    have := hb.set_ (2 + n) (.bool b)
    rw [makerC_set n hn b] at this
    exact ⟨this, hne, by decide, hlo⟩
  · have e' : T g = some (t, cs) := (updN_other T gm g _ hgg).symm.trans e
    have e2 : mkT T gs gm m g = some (t, cs) := (updN_other T gm g _ hgg).trans e'
    obtain ⟨k1, k2, k3, k4⟩ := h.tr _ _ _ e2
    exact ⟨k1.far hgg _, k2, k3, k4⟩
/-- One step more. -/
theorem MkAt.stepped (h : MkAt w0 gs gm T m w) {U W : World} {A A' : Option Addr} {c c' : Nat} (s : StepD) (hx : Ext w U) (hb : Blk w gs 30 #[.slice A m.steps.length c])
    (hw : w.ownsRow w0.heap.size 38 8 (.slice A m.steps.length c) m.steps.length (m.steps.flatMap stepC))
    (ho : W.ownsRow w0.heap.size 38 8 (.slice A' (m.steps.length + 1) c') (m.steps.length + 1) (m.steps.flatMap stepC ++ stepC s)) (hg : U.grownBy W (Value.ownBlock (.slice A m.steps.length c))) :
    MkAt w0 gs gm T { m with steps := m.steps ++ [s] } (W.setCell ⟨gs, 0, none⟩ (.slice A' (m.steps.length + 1) c')) := by
  have hwu := hx.own hw
  have hbu := hb.ext hx
  have n1 : some gs ≠ Value.ownBlock (.slice A m.steps.length c) := Ne.symm (own_blk_ne hwu hbu (by decide))
  have hbw := hbu.grown hg n1
  have n2 : Value.ownBlock (.slice A' (m.steps.length + 1) c') ≠ some gs := own_blk_ne ho hbw (by decide)
  have hlen : (m.steps ++ [s]).length = m.steps.length + 1 := by simp
  refine ⟨⟨A', c', ?_, ?_⟩, fun g t cs e => ?_, h.base, ((h.ext.trans hx).grown hg (fun k hk => (hwu.lt k hk).1)).setCell h.base _⟩
  · show Blk _ gs _ #[.slice A' (m.steps ++ [s]).length c']
    rw [hlen]
    exact hbw.set_ 0 _
  · show World.ownsRow _ _ _ _ (.slice A' (m.steps ++ [s]).length c') (m.steps ++ [s]).length ((m.steps ++ [s]).flatMap stepC)
    rw [hlen, List.flatMap_append]
    simpa using own_far ho n2 _
  · obtain ⟨k1, k2, k3, k4⟩ := h.tr g t cs e
    have k5 := k1.ext hx
    have n3 : some g ≠ Value.ownBlock (.slice A m.steps.length c) := Ne.symm (own_blk_ne hwu k5 (Ne.symm k3))
    exact ⟨(k5.grown hg n3).far k2 _, k2, k3, k4⟩
end
end Go.Proofs.Ytikpdhkjkmbomaa
