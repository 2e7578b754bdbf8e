/- What the rows' listed variables give: LibOk. Plain theorems. -/
import Derived.Test.YtikbfmjhmjkkgaaDoorAmNum
import Derived.Test.YtikbfmjhmjkkgaaDoorOpen
import Derived.Test.YtikbfmjhmjkkgaaDoorDoor
import Derived.Test.YtikbfmjhmjkkgaaDoorRows
import Derived.Stop.LaidErr
import Derived.Stop.Joined
import Derived.LaidLaws
namespace Go.Proofs.YtikbfmjhmjkkgaaDoor
open Go.RowKit Go.ChangeShapes
set_option linter.unusedVariables false

theorem star_err : "*" ++ "errors.errorString" = "*errors.errorString" := by decide
theorem row_err (u : TypeId) (h : Tryd.prog.typeName? 3 u = some "*errors.errorString") : u = 162 :=
  typeName_ptr_named (nm := "errors.errorString") (by rw [star_err]; kernel_rfl) (by kernel_rfl) (by decide) u (by rw [star_err]; exact h)
set_option maxRecDepth 100000 in
theorem lib_ok {W : World} (hL : laidMet Tryd.prog [("math/bits.deBruijn32tab", Rows.laid_math_bits_deBruijn32tab), ("math/bits.deBruijn64tab", Rows.laid_math_bits_deBruijn64tab), ("internal/strconv.uint64pow10", Rows.laid_internal_strconv_uint64pow10), ("unicode/utf8.acceptRanges", Rows.laid_unicode_utf8_acceptRanges), ("strconv.ErrRange", Rows.laid_strconv_ErrRange), ("strconv.ErrSyntax", Rows.laid_strconv_ErrSyntax), ("unicode.White_Space", Rows.laid_unicode_White_Space), ("strings.asciiSpace", Rows.laid_strings_asciiSpace), ("unicode/utf8.first", Rows.laid_unicode_utf8_first)] W) (hsh : W.ShapedOpen Tryd.prog) : LibOk W := by
  have h2 := Go.laidMet.tail (Go.laidMet.tail hL)
  have h4 := Go.laidMet.tail (Go.laidMet.tail h2)
  have h5 := Go.laidMet.tail h4
  have h7 := Go.laidMet.tail (Go.laidMet.tail h5)
  refine ⟨?_, ?_, ?_, ?_, ?_⟩
  · exact Lib.tabIs_of_head (P := Tryd.prog) (g := 3) (show Tryd.prog.globalNamed "internal/strconv.uint64pow10" = some 3 by kernel_rfl) (show (Tryd.prog.globals[3]?).map (·.type) = some 137 by kernel_rfl) Tryd.underlying137 Tryd.underlying90 (by kernel_rfl) (by kernel_rfl) h2
  · exact Lib.tabIs_of_head (P := Tryd.prog) (g := 0) (show Tryd.prog.globalNamed "strings.asciiSpace" = some 0 by kernel_rfl) (show (Tryd.prog.globals[0]?).map (·.type) = some 95 by kernel_rfl) Tryd.underlying95 Tryd.underlying5 (by kernel_rfl) (by kernel_rfl) h7
  · obtain ⟨a, s, hv, -⟩ := Go.laid_sentinel (P := Tryd.prog) (g := 6) h5 (by kernel_rfl) (by kernel_rfl) Tryd.underlying57 row_err Tryd.underlying162 Tryd.underlying164 rfl rfl Tryd.underlying9 (by kernel_rfl) (by kernel_rfl)
    exact ⟨_, _, hv⟩
  · obtain ⟨a, s, hv, -⟩ := Go.laid_sentinel (P := Tryd.prog) (g := 7) h4 (by kernel_rfl) (by kernel_rfl) Tryd.underlying57 row_err Tryd.underlying162 Tryd.underlying164 rfl rfl Tryd.underlying9 (by kernel_rfl) (by kernel_rfl)
    exact ⟨_, _, hv⟩
  · exact cell_of_shapedOpen_int (t := 3) (zero := #[.int .i64 0]) hsh (of_decide_eq_true (by kernel_rfl)) (by kernel_rfl) rfl (by kernel_rfl) (by kernel_rfl) Tryd.underlying3
end Go.Proofs.YtikbfmjhmjkkgaaDoor
