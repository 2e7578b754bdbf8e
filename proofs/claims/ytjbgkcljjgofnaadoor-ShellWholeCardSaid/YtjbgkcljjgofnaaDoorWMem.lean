/- Memory of words.reader. Plain theorems, no condition. -/
import Derived.Test.YtjbgkcljjgofnaaDoorWOp
import Derived.Test.YtjbgkcljjgofnaaDoorFlat
import Derived.Deep.RegionHeld3
import Derived.StillTailTactics
namespace Go.Proofs.YtjbgkcljjgofnaaDoor
open Go.RowKit
set_option linter.unusedVariables false

theorem Blk.rowsF {w : World} {g : Nat} {t : TypeId} {cs : Array Value} (h : Blk w g t cs) (n size : Nat) (hs : cs.size = n * size) : Reads w w.heap.size size (some ⟨g, 0, none⟩) n cs.toList := by
  refine ⟨by simpa using hs, fun _ => ⟨_, rfl, h.lt, fun j u hu => ?_⟩⟩
  rw [add_lit, Nat.zero_add, h.cell]
  simpa using hu
theorem grown_of_ext {w w' : World} (h : Ext w w') (r : Option Nat) : w.grownBy w' r := ⟨h.os, h.tape, h.output, h.size, fun k hk _ => h.block k hk⟩
theorem grown_trans' {a b c : World} {row : Option Nat} (h1 : a.grownBy b row) (h2 : b.grownBy c row) : a.grownBy c row :=
  ⟨h2.os.trans h1.os, h2.tape.trans h1.tape, h2.output.trans h1.output, Nat.le_trans h1.size h2.size, fun k hk hne => (h2.block k (Nat.lt_of_lt_of_le hk h1.size) hne).trans (h1.block k hk hne)⟩
/-- Writes to block g, or to a block that was not there at first. -/
theorem grown_set {w w' : World} {g : Nat} (h : w.grownBy w' (some g)) {p : Addr} (hp : p.block = g ∨ w.heap.size ≤ p.block) (v : Value) : w.grownBy (w'.setCell p v) (some g) :=
  ⟨h.os, h.tape, h.output, by simpa using h.size, fun k hk hne => (Below.heap_setCell w' p v k (fun e => by
    rcases hp with hp | hp
    · exact hne (by rw [← e] at hp; rw [hp])
    · omega)).trans (h.block k hk hne)⟩
theorem grown_new' {a b c : World} {g : Nat} {row : Option Nat} (h : a.grownBy b (some g)) (hg : b.grownBy c row) (hr : ∀ k, row = some k → a.heap.size ≤ k) : a.grownBy c (some g) :=
  ⟨hg.os.trans h.os, hg.tape.trans h.tape, hg.output.trans h.output, Nat.le_trans h.size hg.size, fun k hk hne => (hg.block k (Nat.lt_of_lt_of_le hk h.size) (fun e => by have := hr k e.symm; omega)).trans (h.block k hk hne)⟩
abbrev partT : TypeId := 60
def partC (p : PartD) : List Value := [.string (str p.text), .bool p.var, .bool p.quoted]
theorem partC_len (p : PartD) : (partC p).length = 3 := rfl
theorem partC_one (ps : List PartD) : ∀ u ∈ ps.flatMap partC, u.oneCell' = true := by
  intro u hu
  obtain ⟨p, -, hp⟩ := List.mem_flatMap.1 hu
  simp only [partC, List.mem_cons, List.not_mem_nil, or_false] at hp
  rcases hp with rfl | rfl | rfl <;> rfl
theorem part_info : (Tryd.prog.info? 60).map (fun i => (i.zero, i.size, i.bytes)) = some (some (.agg #[.string ⟨#[]⟩, .bool false, .bool false]), 3, 24) := by kernel_rfl
/-- Block gr is the reader of s, with r still to be read and the parts ps; nothing but it was changed since w0. -/
structure RdAt (w0 : World) (gr : Nat) (s r : List UInt8) (ps : List PartD) (bad : Int) (w : World) : Prop where
  box : ∃ A c, Blk w gr 71 #[.string (str s), .int .i64 ((s.length - r.length : Nat) : Int), .slice A ps.length c, .int .i64 bad] ∧ w.ownsRow w0.heap.size 60 3 (.slice A ps.length c) ps.length (ps.flatMap partC)
  suf : r <:+ s
  lt : gr < w0.heap.size
  grown : w0.grownBy w (some gr)
section
variable {w0 w w' : World} {gr : Nat} {s r r' : List UInt8} {ps ps' : List PartD} {bad : Int}
theorem RdAt.extend (h : RdAt w0 gr s r ps bad w) (hx : Ext w w') : RdAt w0 gr s r ps bad w' := by
  obtain ⟨A, c, h1, h2⟩ := h.box
  exact ⟨⟨A, c, h1.ext hx, hx.own h2⟩, h.suf, h.lt, grown_trans' h.grown (grown_of_ext hx _)⟩
theorem RdAt.move (h : RdAt w0 gr s r ps bad w) (hr : r' <:+ s) {p : Int} (hp : p = ((s.length - r'.length : Nat) : Int)) : RdAt w0 gr s r' ps bad (w.setCell ⟨gr, 1, none⟩ (.int .i64 p)) := by
  subst hp
  obtain ⟨A, c, h1, h2⟩ := h.box
  exact ⟨⟨A, c, h1.set_ 1 _, own_far h2 (own_blk_ne h2 h1 (by decide)) _⟩, hr, h.lt, grown_set h.grown (.inl rfl) _⟩
theorem RdAt.spoil (h : RdAt w0 gr s r ps bad w) (b : Int) : RdAt w0 gr s r ps b (w.setCell ⟨gr, 3, none⟩ (.int .i64 b)) := by
  obtain ⟨A, c, h1, h2⟩ := h.box
  exact ⟨⟨A, c, h1.set_ 3 _, own_far h2 (own_blk_ne h2 h1 (by decide)) _⟩, h.suf, h.lt, grown_set h.grown (.inl rfl) _⟩
/-- One part more, and the box told. -/
theorem RdAt.more (h : RdAt w0 gr s r ps bad w) {U W : World} {A A' : Option Addr} {c c' : Nat} (p : PartD) (hx : Ext w U) (hb : Blk w gr 71 #[.string (str s), .int .i64 ((s.length - r.length : Nat) : Int), .slice A ps.length c, .int .i64 bad])
    (hw : w.ownsRow w0.heap.size 60 3 (.slice A ps.length c) ps.length (ps.flatMap partC))
    (ho : W.ownsRow w0.heap.size 60 3 (.slice A' (ps.length + 1) c') (ps.length + 1) (ps.flatMap partC ++ partC p)) (hg : U.grownBy W (Value.ownBlock (.slice A ps.length c))) :
    RdAt w0 gr s r (ps ++ [p]) bad (W.setCell ⟨gr, 2, none⟩ (.slice A' (ps.length + 1) c')) := by
  have hwu := hx.own hw
  have hbu := hb.ext hx
  have n1 : some gr ≠ Value.ownBlock (.slice A ps.length c) := Ne.symm (own_blk_ne hwu hbu (by decide))
  have hbw := hbu.grown hg n1
  have n2 : Value.ownBlock (.slice A' (ps.length + 1) c') ≠ some gr := own_blk_ne ho hbw (by decide)
  have hlen : (ps ++ [p]).length = ps.length + 1 := by simp
  refine ⟨⟨A', c', ?_, ?_⟩, h.suf, h.lt, grown_set (grown_new' (grown_trans' h.grown (grown_of_ext hx _)) hg (fun k hk => (hwu.lt k hk).1)) (.inl rfl) _⟩
  · rw [hlen]
    exact hbw.set_ 2 _
  · rw [hlen, List.flatMap_append]
    simpa using own_far ho n2 _
/-- The last part's text, written. -/
theorem RdAt.told {p : PartD} (h : RdAt w0 gr s r (ps ++ [p]) bad w) {A : Option Addr} {c g : Nat} (hA : A = some ⟨g, 0, none⟩) (hb : Blk w gr 71 #[.string (str s), .int .i64 ((s.length - r.length : Nat) : Int), .slice A (ps ++ [p]).length c, .int .i64 bad])
    (hw : w.ownsRow w0.heap.size 60 3 (.slice A (ps ++ [p]).length c) (ps ++ [p]).length ((ps ++ [p]).flatMap partC)) (x : List UInt8) :
    RdAt w0 gr s r (ps ++ [{ p with text := x }]) bad (w.setCell ⟨g, ps.length * 3, none⟩ (.string (str x))) := by
  subst hA
  have hlen : (ps ++ [{ p with text := x }]).length = (ps ++ [p]).length := by simp
  have hn : gr ≠ g := fun e => own_blk_ne hw hb (by decide) (by rw [e]; rfl)
  refine ⟨⟨some ⟨g, 0, none⟩, c, ?_, ?_⟩, h.suf, h.lt, grown_set h.grown (.inr (hw.lt g rfl).1) _⟩
  · rw [hlen]
    exact hb.far hn _
  · rw [hlen]
    have := own_set hw (ps.length * 3) (.string (str x))
    have e : ((ps ++ [p]).flatMap partC).set (ps.length * 3) (.string (str x)) = (ps ++ [{ p with text := x }]).flatMap partC := by
      have hl := flat_length (f := partC) (k := 3) partC_len ps
      rw [List.flatMap_append, List.flatMap_append, ← hl, List.set_append_right _ _ (Nat.le_refl _), Nat.sub_self]
      rfl
    rw [e] at this
    exact this
end
end Go.Proofs.YtjbgkcljjgofnaaDoor
