/- What the rows' listed variables give: LibOk. Plain theorems. -/
import Derived.Test.YtjmonkacijncbaaGreatDoorTlLib
import Derived.Test.YtjmonkacijncbaaGreatDoorOpen
import Derived.Test.YtjmonkacijncbaaGreatDoorDoor
import Derived.Test.YtjmonkacijncbaaGreatDoorRows
import Derived.Stop.LaidErr
import Derived.Stop.Joined
import Derived.LaidLaws
import Derived.Lib.LaidU8T
namespace Go.Proofs.YtjmonkacijncbaaGreatDoor
open Go.RowKit Go.ChangeShapes Go.Shelf
set_option linter.unusedVariables false

def renU : Ren := ⟨fun n => n, fun | 5 => 5 | 119 => 154 | 138 => 156 | 139 => 157 | n => n, fun | 3 => 1 | 4 => 2 | n => n⟩
theorem u8types : U8Types Tryz.prog renU := ⟨Tryz.underlying5, Tryz.underlying154, Tryz.underlying156, Tryz.underlying157⟩
theorem u8extra : U8Extra Tryz.prog renU := ⟨by kernel_rfl, by kernel_rfl, by kernel_rfl, by kernel_rfl, by kernel_rfl, by kernel_rfl, by kernel_rfl⟩
theorem first_data : Rows.laid_unicode_utf8_first = Lib.firstData := by kernel_rfl
theorem accept_data : (Rows.laid_unicode_utf8_acceptRanges : DataW Unit) = Lib.acceptData := by kernel_rfl
set_option maxRecDepth 100000 in
theorem lib_ok {W : World} (hL : laidMet Tryz.prog [("math/bits.deBruijn32tab", Rows.laid_math_bits_deBruijn32tab), ("math/bits.deBruijn64tab", Rows.laid_math_bits_deBruijn64tab), ("internal/strconv.uint64pow10", Rows.laid_internal_strconv_uint64pow10), ("unicode/utf8.acceptRanges", Rows.laid_unicode_utf8_acceptRanges), ("strconv.ErrRange", Rows.laid_strconv_ErrRange), ("strconv.ErrSyntax", Rows.laid_strconv_ErrSyntax), ("bytes.ErrTooLarge", Rows.laid_bytes_ErrTooLarge), ("unicode/utf8.first", Rows.laid_unicode_utf8_first)] W) (hsh : W.ShapedOpen Tryz.prog) : LibOk W := by
  have h2 := Go.laidMet.tail (Go.laidMet.tail hL)
  refine ⟨?_, ?_, ?_⟩
  · exact Lib.tabIs_of_head (P := Tryz.prog) (g := 4) (show Tryz.prog.globalNamed "internal/strconv.uint64pow10" = some 4 by kernel_rfl) (show (Tryz.prog.globals[4]?).map (·.type) = some 167 by kernel_rfl) Tryz.underlying167 Tryz.underlying94 (by kernel_rfl) (by kernel_rfl) h2
  · exact cell_of_shapedOpen_int (t := 3) (zero := #[.int .i64 0]) hsh (of_decide_eq_true (by kernel_rfl)) (by kernel_rfl) rfl (by kernel_rfl) (by kernel_rfl) Tryz.underlying3
  · have r1 := Lib.laidMet.reads hL (n := "unicode/utf8.first") (d := Rows.laid_unicode_utf8_first) (by simp)
    have r2 := Lib.laidMet.reads hL (n := "unicode/utf8.acceptRanges") (d := Rows.laid_unicode_utf8_acceptRanges) (by simp)
    rw [first_data] at r1
    rw [accept_data] at r2
    exact utf8Tabs_of_readsT u8types u8extra r1 r2
end Go.Proofs.YtjmonkacijncbaaGreatDoor
