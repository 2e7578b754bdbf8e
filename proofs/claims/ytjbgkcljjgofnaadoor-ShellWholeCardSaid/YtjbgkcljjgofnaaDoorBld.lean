/- The contracts of strings.Builder's WriteString and String at a Builder of the call's own, out of the shelf's. -/
import Derived.Test.YtjbgkcljjgofnaaDoorShelf
import Derived.Test.YtjbgkcljjgofnaaDoorStr
namespace Go.Proofs.YtjbgkcljjgofnaaDoor
open Go.RowKit Go.Shelf
set_option linter.unusedVariables false

theorem lays166 : Go.Proofs.Lays.n166 Tryd.prog Tryd.lays156_ren := {
  mixed := Tryd.lays156.mixed
  f166 := Tryd.lays156.f166
  f240 := Tryd.lays156.f240
  f276 := Tryd.lays156.f276
  t0 := Tryd.lays156.t0
  a0 := Tryd.lays156.a0
  z0 := Tryd.lays156.z0
  v0 := Tryd.lays156.v0
  t3 := Tryd.lays156.t3
  a3 := Tryd.lays156.a3
  z3 := Tryd.lays156.z3
  v3 := Tryd.lays156.v3
  t4 := Tryd.lays156.t4
  a4 := Tryd.lays156.a4
  z4 := Tryd.lays156.z4
  v4 := Tryd.lays156.v4
  t9 := Tryd.lays156.t9
  a9 := Tryd.lays156.a9
  z9 := Tryd.lays156.z9
  v9 := Tryd.lays156.v9
  t20 := Tryd.lays156.t20
  a20 := Tryd.lays156.a20
  z20 := Tryd.lays156.z20
  v20 := Tryd.lays156.v20
  t37 := Tryd.lays156.t37
  a37 := Tryd.lays156.a37
  z37 := Tryd.lays156.z37
  v37 := Tryd.lays156.v37
  t70 := Tryd.lays156.t70
  a70 := Tryd.lays156.a70
  z70 := Tryd.lays156.z70
  v70 := Tryd.lays156.v70
  t72 := Tryd.lays156.t72
  a72 := Tryd.lays156.a72
  z72 := Tryd.lays156.z72
  v72 := Tryd.lays156.v72
  t75 := Tryd.lays156.t75
  a75 := Tryd.lays156.a75
  z75 := Tryd.lays156.z75
  v75 := Tryd.lays156.v75
  t164 := Tryd.lays156.t164
  a164 := Tryd.lays156.a164
  z164 := Tryd.lays156.z164
  v164 := Tryd.lays156.v164 }
theorem bytesV_cells (l : List UInt8) : Lib.byteCells l = bytesV l := rfl
theorem strCells_str (l : List UInt8) : Lib.strCells (str l) = bytesV l := by simp [Lib.strCells, str, bytesV]
/-- Block b is a Builder of the call's own that holds the bytes l. -/
def BldAt (w : World) (B b : Nat) (l : List UInt8) : Prop := Lib.IsBuilder 58 5 B b (bytesV l) w
theorem bld_write (B b : Nat) (l x : List UInt8) (w : World) (h : BldAt w B b l) (hlen : l.length + x.length ≤ 140737488355328) (hB : B ≤ w.heap.size) :
    Calls Tryd.prog 16 #[.pointer (some ⟨b, 0, none⟩), .string (str x)] w fun e w' => e = .returned (.tuple #[.int .i64 (x.length : Int), .nilIface]) ∧ BldAt w' B b (l ++ x) ∧ Below B w w' := by
  have := Any.Builder_WriteString lays166 Tryd.Builder_Extra_156 B b (bytesV l) (str x) w h (by rw [str_size, bytesV_length]; exact hlen) hB
  refine this.mono fun e w' ⟨h1, h2, h3⟩ => ⟨by rw [h1, str_size], ?_, h3⟩
  rw [strCells_str, ← bytesV_append] at h2
  exact .inr h2
theorem bld_string (B b : Nat) (l : List UInt8) (w : World) (h : BldAt w B b l) (hB : B ≤ w.heap.size) :
    Calls Tryd.prog 18 #[.pointer (some ⟨b, 0, none⟩)] w fun e w' => e = .returned (.string (str l)) ∧ Below B w w' := Tryd.Builder_String_any B b l w h hB
theorem bld_new (w : World) : BldAt (w.alloc (.cells #[.pointer none, .slice none 0 0] 58)) w.heap.size w.heap.size [] := .inl ⟨Nat.le_refl _, .slice none 0 0, heap_alloc_new w _, World.ownsRow_nil _ _ _ _, by simp [Value.ownBlock]⟩
theorem BldAt.below {w w' : World} {B b : Nat} {l : List UInt8} (h : BldAt w B b l) {C : Nat} (hb : Below C w w') (hC : w.heap.size ≤ C) : BldAt w' B b l := by
  have hx : Ext w w' := hb.mono hC
  have key : ∀ p, Lib.BuilderAt 58 5 B b p (bytesV l) w → Lib.BuilderAt 58 5 B b p (bytesV l) w' := fun p ⟨h1, v, h2, h3, h4⟩ => ⟨h1, v, (Below.block hx b (Blk.lt h2)).trans h2, hx.own h3, h4⟩
  exact h.imp (key _) (key _)
end Go.Proofs.YtjbgkcljjgofnaaDoor
