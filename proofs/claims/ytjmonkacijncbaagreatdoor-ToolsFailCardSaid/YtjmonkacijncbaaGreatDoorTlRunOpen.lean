/- A Run that came in as an argument. Plain theorems. -/
import Derived.Test.YtjmonkacijncbaaGreatDoorOpenS
import Derived.Test.YtjmonkacijncbaaGreatDoorStr
namespace Go.Proofs.YtjmonkacijncbaaGreatDoor
open Go.RowKit Go.ChangeShapes Go.WideShapes Go.Joins Go.Deep
set_option linter.unusedVariables false

section
variable {H : Type} {enc : TypeId × Value → H} {w : World} {base : Nat} {held : Bool}
set_option maxRecDepth 100000 in
theorem open_run {r : Reach} {b0 : Nat} {v : Value} {d : DataW H} {p : List MemPlace} (hv : Value.okWide Tryz.prog w r b0 38 v) (h : DataW.Trod enc Tryz.prog w base (fun _ => true) held 38 v d p) :
    ∃ (x a b : Int) (s : List UInt8), v = .agg #[.int .i64 x, .int .i64 a, .int .i64 b, .string (str s)] ∧ (-9223372036854775808 ≤ x ∧ x ≤ 9223372036854775807) ∧ (-9223372036854775808 ≤ a ∧ a ≤ 9223372036854775807) ∧ (-9223372036854775808 ≤ b ∧ b ≤ 9223372036854775807) ∧ (str s).size ≤ 9223372036854775807 := by
  obtain ⟨cs, rfl, hsz⟩ := okWide_struct Tryz.underlying38 hv
  obtain ⟨l⟩ := cs
  have hsz4 : l.length = 4 := by simpa using hsz.trans (by kernel_rfl : Tryz.prog.cellsOf 38 = 4)
  match l, hsz4 with
  | [c0, c1, c2, c3], _ =>
    obtain ⟨fuel, hf⟩ := h
    obtain ⟨xs, n, _, hx, _, hlen, hg⟩ := DataW.trod_struct Tryz.underlying38 hf
    have k0 : Tryz.prog.cellsOf 3 = 1 := by kernel_rfl
    have k1 : Tryz.prog.cellsOf 9 = 1 := by kernel_rfl
    match xs, hlen with
    | [y0, y1, y2, y3], _ =>
      have g0 : DataW.trod enc Tryz.prog w base (fun _ => true) held n 3 [c0] = some y0 := by simpa [Value.cells, k0] using hg 0 _ rfl
      have g1 : DataW.trod enc Tryz.prog w base (fun _ => true) held n 3 [c1] = some y1 := by simpa [Value.cells, k0] using hg 1 _ rfl
      have g2 : DataW.trod enc Tryz.prog w base (fun _ => true) held n 3 [c2] = some y2 := by simpa [Value.cells, k0] using hg 2 _ rfl
      have g3 : DataW.trod enc Tryz.prog w base (fun _ => true) held n 9 [c3] = some y3 := by simpa [Value.cells, k1] using hg 3 _ rfl
      obtain ⟨x, rfl, wx⟩ := open_num Tryz.underlying3 g0
      obtain ⟨a, rfl, wa⟩ := open_num Tryz.underlying3 g1
      obtain ⟨b, rfl, wb⟩ := open_num Tryz.underlying3 g2
      obtain ⟨s, hs, _, hm⟩ := DataW.trod_string Tryz.underlying9 g3
      injection hs with hs _
      subst hs
      exact ⟨x, a, b, s.data.toList, by rw [str_data], bounds_i64 wx, bounds_i64 wa, bounds_i64 wb, by rw [str_data]; exact hm⟩
end
end Go.Proofs.YtjmonkacijncbaaGreatDoor
