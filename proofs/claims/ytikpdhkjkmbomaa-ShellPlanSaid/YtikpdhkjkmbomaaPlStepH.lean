/- The contracts of (*world).step, one for each kind of call (printed by gen_step.py). -/
import Derived.Test.YtikpdhkjkmbomaaPlMem
import Derived.Test.YtikpdhkjkmbomaaPlCont
import Derived.Test.YtikpdhkjkmbomaaPlLeast
import Derived.Deep.QuietTactic
import Derived.BigQuiet
import Derived.Deep.RegionHeld3
import Derived.Deep.RegionLaw
import Derived.Deep.CutBlock
namespace Go.Proofs.Ytikpdhkjkmbomaa
open Go.RowKit Go.Maps
set_option linter.unusedVariables false

theorem int_infoT : (Try.prog.info? 3).map (fun i => (i.zero, i.size, i.bytes)) = some (some (.int .i64 0), 1, 8) := by kernel_rfl
theorem map_infoT : (Try.prog.info? 44).map (fun i => (i.zero, i.size, i.bytes)) = some (some (.map none), 1, 8) := by kernel_rfl
abbrev stT : TypeId := 38
abbrev caT : TypeId := 36
def StOut (w0 wb : World) (be gw K : Nat) (d' : WT) (e : Ending) (w' : World) : Prop := e = .returned (.bool true) ∧ ∃ N E ms Af cf Ae ce, WAt w0 wb be gw K N E d' ms Af cf Ae ce w'
theorem quiet_left {P : Program} {f : FuncId} {args : Array Value} {w : World} {n : Nat} {v : Value}
    (h : Calls P f args (w.drewN n) fun e w' => e = .returned v ∧ w.drewN n = w') : Calls P f args (w.drewN n) fun e w'' => e = .returned v ∧ ∃ m, w'' = w.drewN m :=
  h.mono fun _ _ ⟨he, hm⟩ => ⟨he, n, hm.symm⟩
theorem keep7 {w : World} {g : Nat} {t : TypeId} {a b c d e f h : Value} (hb : Blk w g t #[a, b, c, d, e, f, h]) : w.cell? ⟨g, 0, none⟩ = some a ∧ w.cell? ⟨g, 1, none⟩ = some b ∧ w.cell? ⟨g, 2, none⟩ = some c ∧ w.cell? ⟨g, 3, none⟩ = some d ∧ w.cell? ⟨g, 4, none⟩ = some e ∧ w.cell? ⟨g, 5, none⟩ = some f ∧ w.cell? ⟨g, 6, none⟩ = some h :=
  ⟨hb.cell 0, hb.cell 1, hb.cell 2, hb.cell 3, hb.cell 4, hb.cell 5, hb.cell 6⟩
end Go.Proofs.Ytikpdhkjkmbomaa
