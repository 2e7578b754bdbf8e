/- A program that is given its input in whatever pieces, and whose output is taken in whatever pieces, writes what it means: the law ToolsDriven returns true for every input. Condition: the listed variables of Go's library hold what its text lays (the card ties them). -/
import Derived.Test.YtjmonkacijncbaaGreatDoorTlLib
import Derived.Test.YtjmonkacijncbaaGreatDoorOpen
import Derived.Test.YtjmonkacijncbaaGreatDoorDoor
import Derived.Test.YtjmonkacijncbaaGreatDoorRows
import Derived.Stop.LaidErr
import Derived.Stop.Joined
import Derived.LaidLaws
import Derived.Lib.LaidU8T
import Derived.Test.YtjmonkacijncbaaGreatDoorOpenS
import Derived.Test.YtjmonkacijncbaaGreatDoorStr
import Derived.Test.YtjmonkacijncbaaGreatDoorTlNext
import Derived.Deep.DeepCutAuto
import Derived.Test.YtjmonkacijncbaaGreatDoorTlMeanWc
import Derived.Test.YtjmonkacijncbaaGreatDoorTlSortP
import Derived.Test.YtjmonkacijncbaaGreatDoorTlGot
import Derived.Test.YtjmonkacijncbaaGreatDoorIntsV
import Derived.Test.YtjmonkacijncbaaGreatDoorRest
import Derived.BigQuiet
import Derived.Laws.Cover1
import Derived.Test.YtjmonkacijncbaaGreatDoorTlSortW
import Derived.Test.YtjmonkacijncbaaGreatDoorOpenI
import Derived.Test.YtjmonkacijncbaaGreatDoorCards
import Derived.Test.YtjmonkacijncbaaGreatDoorTie
import Derived.SevenTiedAt
namespace Go.Proofs.YtjmonkacijncbaaGreatDoor
open Go.RowKit Go.ChangeShapes Go.Shelf
set_option linter.unusedVariables false

def renU : Ren := ⟨fun n => n, fun | 5 => 5 | 119 => 154 | 138 => 156 | 139 => 157 | n => n, fun | 3 => 1 | 4 => 2 | n => n⟩
theorem u8types : U8Types Tryz.prog renU := ⟨Tryz.underlying5, Tryz.underlying154, Tryz.underlying156, Tryz.underlying157⟩
theorem u8extra : U8Extra Tryz.prog renU := ⟨by kernel_rfl, by kernel_rfl, by kernel_rfl, by kernel_rfl, by kernel_rfl, by kernel_rfl, by kernel_rfl⟩
theorem first_data : Rows.laid_unicode_utf8_first = Lib.firstData := by kernel_rfl
theorem accept_data : (Rows.laid_unicode_utf8_acceptRanges : DataW Unit) = Lib.acceptData := by kernel_rfl
set_option maxRecDepth 100000 in
theorem lib_ok {W : World} (hL : laidMet Tryz.prog [("math/bits.deBruijn32tab", Rows.laid_math_bits_deBruijn32tab), ("math/bits.deBruijn64tab", Rows.laid_math_bits_deBruijn64tab), ("internal/strconv.uint64pow10", Rows.laid_internal_strconv_uint64pow10), ("unicode/utf8.acceptRanges", Rows.laid_unicode_utf8_acceptRanges), ("strconv.ErrRange", Rows.laid_strconv_ErrRange), ("strconv.ErrSyntax", Rows.laid_strconv_ErrSyntax), ("bytes.ErrTooLarge", Rows.laid_bytes_ErrTooLarge), ("unicode/utf8.first", Rows.laid_unicode_utf8_first)] W) (hsh : W.ShapedOpen Tryz.prog) : LibOk W := by
  have h2 := Go.laidMet.tail (Go.laidMet.tail hL)
  refine ⟨?_, ?_, ?_⟩
  · exact Lib.tabIs_of_head (P := Tryz.prog) (g := 4) (show Tryz.prog.globalNamed "internal/strconv.uint64pow10" = some 4 by kernel_rfl) (show (Tryz.prog.globals[4]?).map (·.type) = some 167 by kernel_rfl) Tryz.underlying167 Tryz.underlying94 (by kernel_rfl) (by kernel_rfl) h2
  · exact cell_of_shapedOpen_int (t := 3) (zero := #[.int .i64 0]) hsh (of_decide_eq_true (by kernel_rfl)) (by kernel_rfl) rfl (by kernel_rfl) (by kernel_rfl) Tryz.underlying3
  · have r1 := Lib.laidMet.reads hL (n := "unicode/utf8.first") (d := Rows.laid_unicode_utf8_first) (by simp)
    have r2 := Lib.laidMet.reads hL (n := "unicode/utf8.acceptRanges") (d := Rows.laid_unicode_utf8_acceptRanges) (by simp)
    rw [first_data] at r1
    rw [accept_data] at r2
    exact utf8Tabs_of_readsT u8types u8extra r1 r2
end Go.Proofs.YtjmonkacijncbaaGreatDoor

namespace Go.Proofs.YtjmonkacijncbaaGreatDoor
open Go.RowKit Go.ChangeShapes Go.WideShapes Go.Joins Go.Deep
set_option linter.unusedVariables false

section
variable {H : Type} {enc : TypeId × Value → H} {w : World} {base : Nat} {held : Bool}
set_option maxRecDepth 100000 in
theorem open_run {r : Reach} {b0 : Nat} {v : Value} {d : DataW H} {p : List MemPlace} (hv : Value.okWide Tryz.prog w r b0 38 v) (h : DataW.Trod enc Tryz.prog w base (fun _ => true) held 38 v d p) :
    ∃ (x a b : Int) (s : List UInt8), v = .agg #[.int .i64 x, .int .i64 a, .int .i64 b, .string (str s)] ∧ (-9223372036854775808 ≤ x ∧ x ≤ 9223372036854775807) ∧ (-9223372036854775808 ≤ a ∧ a ≤ 9223372036854775807) ∧ (-9223372036854775808 ≤ b ∧ b ≤ 9223372036854775807) ∧ (str s).size ≤ 9223372036854775807 := by
  obtain ⟨cs, rfl, hsz⟩ := okWide_struct Tryz.underlying38 hv
  obtain ⟨l⟩ := cs
  have hsz4 : l.length = 4 := by simpa using hsz.trans (by kernel_rfl : Tryz.prog.cellsOf 38 = 4)
  match l, hsz4 with
  | [c0, c1, c2, c3], _ =>
    obtain ⟨fuel, hf⟩ := h
    obtain ⟨xs, n, _, hx, _, hlen, hg⟩ := DataW.trod_struct Tryz.underlying38 hf
    have k0 : Tryz.prog.cellsOf 3 = 1 := by kernel_rfl
    have k1 : Tryz.prog.cellsOf 9 = 1 := by kernel_rfl
    match xs, hlen with
    | [y0, y1, y2, y3], _ =>
      have g0 : DataW.trod enc Tryz.prog w base (fun _ => true) held n 3 [c0] = some y0 := by simpa [Value.cells, k0] using hg 0 _ rfl
      have g1 : DataW.trod enc Tryz.prog w base (fun _ => true) held n 3 [c1] = some y1 := by simpa [Value.cells, k0] using hg 1 _ rfl
      have g2 : DataW.trod enc Tryz.prog w base (fun _ => true) held n 3 [c2] = some y2 := by simpa [Value.cells, k0] using hg 2 _ rfl
      have g3 : DataW.trod enc Tryz.prog w base (fun _ => true) held n 9 [c3] = some y3 := by simpa [Value.cells, k1] using hg 3 _ rfl
      obtain ⟨x, rfl, wx⟩ := open_num Tryz.underlying3 g0
      obtain ⟨a, rfl, wa⟩ := open_num Tryz.underlying3 g1
      obtain ⟨b, rfl, wb⟩ := open_num Tryz.underlying3 g2
      obtain ⟨s, hs, _, hm⟩ := DataW.trod_string Tryz.underlying9 g3
      injection hs with hs _
      subst hs
      exact ⟨x, a, b, s.data.toList, by rw [str_data], bounds_i64 wx, bounds_i64 wa, bounds_i64 wb, by rw [str_data]; exact hm⟩
end
end Go.Proofs.YtjmonkacijncbaaGreatDoor

namespace Go.Proofs.YtjmonkacijncbaaGreatDoor
open Go.RowKit
set_option linter.unusedVariables false

/-- A program by the way it starts. -/
inductive Kind (nm : Bs) (L : List Bs) : Prop
  | plain (hc : CheckAt nm L) (e1 : ((str nm).toList == [101, 99, 104, 111]) = false) (e2 : ((str nm).toList == [102, 97, 108, 115, 101]) = false)
  | echo (f : Bs → Bs) (hm : MeanAt nm L f fun _ => 0) (hc : CheckAt nm L) (e1 : ((str nm).toList == [101, 99, 104, 111]) = true) (hf : (f []).length ≠ 0)
  | false_ (hm : MeanAt nm L (fun _ => []) fun _ => 1) (hc : CheckAt nm L) (e1 : ((str nm).toList == [101, 99, 104, 111]) = false) (e2 : ((str nm).toList == [102, 97, 108, 115, 101]) = true)
theorem kind_of {nm : Bs} {L : List Bs} (h : RunArgs nm L) : Kind nm L := by
  cases h with
  | cat_ => exact .plain check_cat (by kernel_rfl) (by kernel_rfl)
  | cut_ a b h1 h2 h3 => exact .plain (check_cut a b h1 h2 (by omega)) (by kernel_rfl) (by kernel_rfl)
  | echo_ t h => exact .echo (fun _ => Lib.join [[97], t] [32] ++ [10]) (mean_echo [[97], t] (by simp) (by simp [Lib.join]; omega)) (check_echo [[97], t] (by simp)) (by kernel_rfl) (by simp)
  | false_ => exact .false_ mean_false check_false_ (by kernel_rfl) (by kernel_rfl)
  | grep_ g h h2 => exact .plain (check_grep g h) (by kernel_rfl) (by kernel_rfl)
  | head_ k h => exact .plain (check_head k (by omega)) (by kernel_rfl) (by kernel_rfl)
  | nl_ => exact .plain check_nl (by kernel_rfl) (by kernel_rfl)
  | sort_ => exact .plain check_sort (by kernel_rfl) (by kernel_rfl)
  | tac_ => exact .plain check_tac (by kernel_rfl) (by kernel_rfl)
  | tail_ k h => exact .plain (check_tail k (by omega)) (by kernel_rfl) (by kernel_rfl)
  | tr_ x y => exact .plain (check_tr x y) (by kernel_rfl) (by kernel_rfl)
  | uniq_ => exact .plain check_uniq (by kernel_rfl) (by kernel_rfl)
  | wc_ => exact .plain check_wc (by kernel_rfl) (by kernel_rfl)
/-- A program that reads: one step of it. -/
theorem next_more {w0 w : World} {hp : Nat} {nm : Bs} {L : List Bs} {q : Bool} {inp ds : Bs} {Ad : Option Addr} {nd cd B : Nat} (h : TAt w0 w hp nm L 1 q 0 inp []) (hr : Reads w B 1 Ad nd (bytesV ds)) (hB : B ≤ w.heap.size) (hq : q = true → 0 < nd) (hlen : inp.length + nd ≤ 1024) :
    Calls Tryz.prog 23 #[.pointer (some ⟨hp, 0, none⟩), .agg #[.int .i64 0, .int .i64 0, .int .i64 0, .slice Ad nd cd, .slice none 0 0, .int .i64 0, .int .i64 0, .int .i64 0, .int .i64 0, .int .i64 0, .int .i64 0]] w fun e w' => CallRead e ∧ TAt w0 w' hp nm L 1 true 0 (if q = true then inp ++ ds else inp) [] ∧ KeepX hp false w w' := by
  cases q with
  | false =>
    rw [if_neg (by simp)]
    exact next_f1 h 0 0 Ad nd cd
  | true =>
    rw [if_pos rfl]
    refine next_t1 h 0 0 Ad nd cd fun W hx hT => ?_
    obtain ⟨A, n, c, Ai, mi, ci, Ao, mo, co, hT⟩ := hT
    have hmo : mo = 0 := by have := bytes_len hT.outr; simpa using this.symm
    refine (got_read hT hmo Ad nd cd ds B (hx.reads hr hB) (Nat.le_trans hB hx.size) (hq rfl) hlen).mono ?_
    rintro e w' ⟨rfl, ⟨Ai', ci', h'⟩, hk⟩
    exact ⟨rfl, ⟨_, _, _, _, _, _, _, _, _, h'⟩, hk⟩
theorem next_err {w0 w : World} {hp : Nat} {nm : Bs} {L : List Bs} {d st : Int} {inp out : Bs} (h : TAt w0 w hp nm L d true st inp out) (er : Int) (h9 : er ≠ 9) (h0 : er ≠ 0) :
    Calls Tryz.prog 23 #[.pointer (some ⟨hp, 0, none⟩), .agg #[.int .i64 er, .int .i64 0, .int .i64 0, .slice none 0 0, .slice none 0 0, .int .i64 0, .int .i64 0, .int .i64 0, .int .i64 0, .int .i64 0, .int .i64 0]] w fun e w' => CallExit 2 e ∧ TAt w0 w' hp nm L 3 false 2 inp out ∧ KeepX hp true w w' := by
  refine next_t3 h er 0 none 0 0 fun W hx hT => ?_
  obtain ⟨A, n, c, Ai, mi, ci, Ao, mo, co, hT⟩ := hT
  refine (got_err hT er 0 h9 h0 none 0 0).mono ?_
  rintro e w' ⟨rfl, h', hk⟩
  exact ⟨rfl, ⟨_, _, _, _, _, _, _, _, _, h'⟩, hk⟩
/-- A program that writes, of which nothing is taken: one step of it. -/
theorem next_same {w0 w : World} {hp : Nat} {nm : Bs} {L : List Bs} {q : Bool} {st : Int} {inp out : Bs} (h : TAt w0 w hp nm L 2 q st inp out) (ho : out.length ≠ 0) :
    Calls Tryz.prog 23 #[.pointer (some ⟨hp, 0, none⟩), .agg #[.int .i64 0, .int .i64 0, .int .i64 0, .slice none 0 0, .slice none 0 0, .int .i64 0, .int .i64 0, .int .i64 0, .int .i64 0, .int .i64 0, .int .i64 0]] w fun e w' => CallWrite out e w' ∧ TAt w0 w' hp nm L 2 true st inp out ∧ KeepX hp true w w' := by
  cases q with
  | false => exact next_f2 h 0 0 none 0 0
  | true =>
    refine next_t2 h 0 0 none 0 0 fun W hx hT => ?_
    obtain ⟨A, n, c, Ai, mi, ci, Ao, mo, co, hT⟩ := hT
    refine (got_write hT 0 0 (Nat.zero_min _)).mono ?_
    rintro e w' ⟨rfl, ⟨Ao', mo', co', h'⟩, hk⟩
    rw [List.drop_zero, show doingOf out = 2 from if_neg ho] at h'
    exact ⟨rfl, ⟨_, _, _, _, _, _, _, _, _, h'⟩, hk⟩
theorem other_ne {w : World} {g hp : Nat} {w0 : World} {nm : Bs} {L : List Bs} {d st : Int} {q : Bool} {inp out : Bs} {t : TypeId} {cs : Array Value} (h : TAt w0 w hp nm L d q st inp out) (hb : Blk w g t cs) (ht : t ≠ 80) : g ≠ hp := by
  obtain ⟨_, _, _, _, _, _, _, _, _, h⟩ := h
  exact Blk.ne_ hb h.box ht
/-- Where the rounds of ToolsFail stand: a program that reads. -/
def FailP (w0 : World) (hp ha : Nat) (nm : Bs) (L : List Bs) (k : Nat) (v : Value) (w : World) : Prop :=
  ∃ (j : Nat) (inp ds : Bs) (Ad : Option Addr) (nd cd : Nat), v = .int .i64 (j : Int) ∧ j ≤ k ∧ inp.length ≤ 2 * j ∧ nd ≤ 2 ∧ TAt w0 w hp nm L 1 (decide (0 < j)) 0 inp [] ∧ Blk w ha 55 #[.int .i64 0, .int .i64 0, .int .i64 0, .slice Ad nd cd, .slice none 0 0, .int .i64 0, .int .i64 0, .int .i64 0, .int .i64 0, .int .i64 0, .int .i64 0] ∧ Reads w w.heap.size 1 Ad nd (bytesV ds) ∧ (0 < j → 0 < nd)
theorem two_bytes (W : World) : Reads (W.alloc (.cells #[.int .u8 97, .int .u8 10] 5 (2, 3))) (W.alloc (.cells #[.int .u8 97, .int .u8 10] 5 (2, 3))).heap.size 1 (some ⟨W.heap.size, 0, none⟩) 2 (bytesV [97, 10]) := by
  refine ⟨rfl, fun _ => ⟨_, rfl, by simp, fun j u hu => ?_⟩⟩
  rw [add_lit, Nat.zero_add, cell_of_row _ W.heap.size j _ _ _ (heap_alloc_new W _)]
  simpa [bytesV] using hu
theorem Blk.set7 {w : World} {g : Nat} {t : TypeId} {a0 a1 a2 a3 a4 a5 a6 : Value} (h : Blk w g t #[a0, a1, a2, a3, a4, a5, a6]) (v0 v1 v2 v3 v4 v5 v6 : Value) : Blk (((((((w.setCell ⟨g, 0, none⟩ v0).setCell ⟨g, 1, none⟩ v1).setCell ⟨g, 2, none⟩ v2).setCell ⟨g, 3, none⟩ v3).setCell ⟨g, 4, none⟩ v4).setCell ⟨g, 5, none⟩ v5).setCell ⟨g, 6, none⟩ v6) g t #[v0, v1, v2, v3, v4, v5, v6] := by
  have h0 : Blk (w.setCell ⟨g, 0, none⟩ v0) g t #[v0, a1, a2, a3, a4, a5, a6] := h.set_ 0 v0
  have h1 : Blk ((w.setCell ⟨g, 0, none⟩ v0).setCell ⟨g, 1, none⟩ v1) g t #[v0, v1, a2, a3, a4, a5, a6] := h0.set_ 1 v1
  have h2 : Blk (((w.setCell ⟨g, 0, none⟩ v0).setCell ⟨g, 1, none⟩ v1).setCell ⟨g, 2, none⟩ v2) g t #[v0, v1, v2, a3, a4, a5, a6] := h1.set_ 2 v2
  have h3 : Blk ((((w.setCell ⟨g, 0, none⟩ v0).setCell ⟨g, 1, none⟩ v1).setCell ⟨g, 2, none⟩ v2).setCell ⟨g, 3, none⟩ v3) g t #[v0, v1, v2, v3, a4, a5, a6] := h2.set_ 3 v3
  have h4 : Blk (((((w.setCell ⟨g, 0, none⟩ v0).setCell ⟨g, 1, none⟩ v1).setCell ⟨g, 2, none⟩ v2).setCell ⟨g, 3, none⟩ v3).setCell ⟨g, 4, none⟩ v4) g t #[v0, v1, v2, v3, v4, a5, a6] := h3.set_ 4 v4
  have h5 : Blk ((((((w.setCell ⟨g, 0, none⟩ v0).setCell ⟨g, 1, none⟩ v1).setCell ⟨g, 2, none⟩ v2).setCell ⟨g, 3, none⟩ v3).setCell ⟨g, 4, none⟩ v4).setCell ⟨g, 5, none⟩ v5) g t #[v0, v1, v2, v3, v4, v5, a6] := h4.set_ 5 v5
  have h6 : Blk (((((((w.setCell ⟨g, 0, none⟩ v0).setCell ⟨g, 1, none⟩ v1).setCell ⟨g, 2, none⟩ v2).setCell ⟨g, 3, none⟩ v3).setCell ⟨g, 4, none⟩ v4).setCell ⟨g, 5, none⟩ v5).setCell ⟨g, 6, none⟩ v6) g t #[v0, v1, v2, v3, v4, v5, v6] := h5.set_ 6 v6
  exact h6
theorem KeepX.set7 (g : Nat) (w : World) (v0 v1 v2 v3 v4 v5 v6 : Value) : KeepX g true w (((((((w.setCell ⟨g, 0, none⟩ v0).setCell ⟨g, 1, none⟩ v1).setCell ⟨g, 2, none⟩ v2).setCell ⟨g, 3, none⟩ v3).setCell ⟨g, 4, none⟩ v4).setCell ⟨g, 5, none⟩ v5).setCell ⟨g, 6, none⟩ v6) := by
  have h0 : KeepX g true w (w.setCell ⟨g, 0, none⟩ v0) := KeepX.set g true w 0 v0
  have h1 : KeepX g true w ((w.setCell ⟨g, 0, none⟩ v0).setCell ⟨g, 1, none⟩ v1) := h0.trans (KeepX.set g true _ 1 v1)
  have h2 : KeepX g true w (((w.setCell ⟨g, 0, none⟩ v0).setCell ⟨g, 1, none⟩ v1).setCell ⟨g, 2, none⟩ v2) := h1.trans (KeepX.set g true _ 2 v2)
  have h3 : KeepX g true w ((((w.setCell ⟨g, 0, none⟩ v0).setCell ⟨g, 1, none⟩ v1).setCell ⟨g, 2, none⟩ v2).setCell ⟨g, 3, none⟩ v3) := h2.trans (KeepX.set g true _ 3 v3)
  have h4 : KeepX g true w (((((w.setCell ⟨g, 0, none⟩ v0).setCell ⟨g, 1, none⟩ v1).setCell ⟨g, 2, none⟩ v2).setCell ⟨g, 3, none⟩ v3).setCell ⟨g, 4, none⟩ v4) := h3.trans (KeepX.set g true _ 4 v4)
  have h5 : KeepX g true w ((((((w.setCell ⟨g, 0, none⟩ v0).setCell ⟨g, 1, none⟩ v1).setCell ⟨g, 2, none⟩ v2).setCell ⟨g, 3, none⟩ v3).setCell ⟨g, 4, none⟩ v4).setCell ⟨g, 5, none⟩ v5) := h4.trans (KeepX.set g true _ 5 v5)
  have h6 : KeepX g true w (((((((w.setCell ⟨g, 0, none⟩ v0).setCell ⟨g, 1, none⟩ v1).setCell ⟨g, 2, none⟩ v2).setCell ⟨g, 3, none⟩ v3).setCell ⟨g, 4, none⟩ v4).setCell ⟨g, 5, none⟩ v5).setCell ⟨g, 6, none⟩ v6) := h5.trans (KeepX.set g true _ 6 v6)
  exact h6
theorem Blk.set11 {w : World} {g : Nat} {t : TypeId} {a0 a1 a2 a3 a4 a5 a6 a7 a8 a9 a10 : Value} (h : Blk w g t #[a0, a1, a2, a3, a4, a5, a6, a7, a8, a9, a10]) (v0 v1 v2 v3 v4 v5 v6 v7 v8 v9 v10 : Value) : Blk (((((((((((w.setCell ⟨g, 0, none⟩ v0).setCell ⟨g, 1, none⟩ v1).setCell ⟨g, 2, none⟩ v2).setCell ⟨g, 3, none⟩ v3).setCell ⟨g, 4, none⟩ v4).setCell ⟨g, 5, none⟩ v5).setCell ⟨g, 6, none⟩ v6).setCell ⟨g, 7, none⟩ v7).setCell ⟨g, 8, none⟩ v8).setCell ⟨g, 9, none⟩ v9).setCell ⟨g, 10, none⟩ v10) g t #[v0, v1, v2, v3, v4, v5, v6, v7, v8, v9, v10] := by
  have h0 : Blk (w.setCell ⟨g, 0, none⟩ v0) g t #[v0, a1, a2, a3, a4, a5, a6, a7, a8, a9, a10] := h.set_ 0 v0
  have h1 : Blk ((w.setCell ⟨g, 0, none⟩ v0).setCell ⟨g, 1, none⟩ v1) g t #[v0, v1, a2, a3, a4, a5, a6, a7, a8, a9, a10] := h0.set_ 1 v1
  have h2 : Blk (((w.setCell ⟨g, 0, none⟩ v0).setCell ⟨g, 1, none⟩ v1).setCell ⟨g, 2, none⟩ v2) g t #[v0, v1, v2, a3, a4, a5, a6, a7, a8, a9, a10] := h1.set_ 2 v2
  have h3 : Blk ((((w.setCell ⟨g, 0, none⟩ v0).setCell ⟨g, 1, none⟩ v1).setCell ⟨g, 2, none⟩ v2).setCell ⟨g, 3, none⟩ v3) g t #[v0, v1, v2, v3, a4, a5, a6, a7, a8, a9, a10] := h2.set_ 3 v3
  have h4 : Blk (((((w.setCell ⟨g, 0, none⟩ v0).setCell ⟨g, 1, none⟩ v1).setCell ⟨g, 2, none⟩ v2).setCell ⟨g, 3, none⟩ v3).setCell ⟨g, 4, none⟩ v4) g t #[v0, v1, v2, v3, v4, a5, a6, a7, a8, a9, a10] := h3.set_ 4 v4
  have h5 : Blk ((((((w.setCell ⟨g, 0, none⟩ v0).setCell ⟨g, 1, none⟩ v1).setCell ⟨g, 2, none⟩ v2).setCell ⟨g, 3, none⟩ v3).setCell ⟨g, 4, none⟩ v4).setCell ⟨g, 5, none⟩ v5) g t #[v0, v1, v2, v3, v4, v5, a6, a7, a8, a9, a10] := h4.set_ 5 v5
  have h6 : Blk (((((((w.setCell ⟨g, 0, none⟩ v0).setCell ⟨g, 1, none⟩ v1).setCell ⟨g, 2, none⟩ v2).setCell ⟨g, 3, none⟩ v3).setCell ⟨g, 4, none⟩ v4).setCell ⟨g, 5, none⟩ v5).setCell ⟨g, 6, none⟩ v6) g t #[v0, v1, v2, v3, v4, v5, v6, a7, a8, a9, a10] := h5.set_ 6 v6
  have h7 : Blk ((((((((w.setCell ⟨g, 0, none⟩ v0).setCell ⟨g, 1, none⟩ v1).setCell ⟨g, 2, none⟩ v2).setCell ⟨g, 3, none⟩ v3).setCell ⟨g, 4, none⟩ v4).setCell ⟨g, 5, none⟩ v5).setCell ⟨g, 6, none⟩ v6).setCell ⟨g, 7, none⟩ v7) g t #[v0, v1, v2, v3, v4, v5, v6, v7, a8, a9, a10] := h6.set_ 7 v7
  have h8 : Blk (((((((((w.setCell ⟨g, 0, none⟩ v0).setCell ⟨g, 1, none⟩ v1).setCell ⟨g, 2, none⟩ v2).setCell ⟨g, 3, none⟩ v3).setCell ⟨g, 4, none⟩ v4).setCell ⟨g, 5, none⟩ v5).setCell ⟨g, 6, none⟩ v6).setCell ⟨g, 7, none⟩ v7).setCell ⟨g, 8, none⟩ v8) g t #[v0, v1, v2, v3, v4, v5, v6, v7, v8, a9, a10] := h7.set_ 8 v8
  have h9 : Blk ((((((((((w.setCell ⟨g, 0, none⟩ v0).setCell ⟨g, 1, none⟩ v1).setCell ⟨g, 2, none⟩ v2).setCell ⟨g, 3, none⟩ v3).setCell ⟨g, 4, none⟩ v4).setCell ⟨g, 5, none⟩ v5).setCell ⟨g, 6, none⟩ v6).setCell ⟨g, 7, none⟩ v7).setCell ⟨g, 8, none⟩ v8).setCell ⟨g, 9, none⟩ v9) g t #[v0, v1, v2, v3, v4, v5, v6, v7, v8, v9, a10] := h8.set_ 9 v9
  have h10 : Blk (((((((((((w.setCell ⟨g, 0, none⟩ v0).setCell ⟨g, 1, none⟩ v1).setCell ⟨g, 2, none⟩ v2).setCell ⟨g, 3, none⟩ v3).setCell ⟨g, 4, none⟩ v4).setCell ⟨g, 5, none⟩ v5).setCell ⟨g, 6, none⟩ v6).setCell ⟨g, 7, none⟩ v7).setCell ⟨g, 8, none⟩ v8).setCell ⟨g, 9, none⟩ v9).setCell ⟨g, 10, none⟩ v10) g t #[v0, v1, v2, v3, v4, v5, v6, v7, v8, v9, v10] := h9.set_ 10 v10
  exact h10
theorem KeepX.set11 (g : Nat) (w : World) (v0 v1 v2 v3 v4 v5 v6 v7 v8 v9 v10 : Value) : KeepX g true w (((((((((((w.setCell ⟨g, 0, none⟩ v0).setCell ⟨g, 1, none⟩ v1).setCell ⟨g, 2, none⟩ v2).setCell ⟨g, 3, none⟩ v3).setCell ⟨g, 4, none⟩ v4).setCell ⟨g, 5, none⟩ v5).setCell ⟨g, 6, none⟩ v6).setCell ⟨g, 7, none⟩ v7).setCell ⟨g, 8, none⟩ v8).setCell ⟨g, 9, none⟩ v9).setCell ⟨g, 10, none⟩ v10) := by
  have h0 : KeepX g true w (w.setCell ⟨g, 0, none⟩ v0) := KeepX.set g true w 0 v0
  have h1 : KeepX g true w ((w.setCell ⟨g, 0, none⟩ v0).setCell ⟨g, 1, none⟩ v1) := h0.trans (KeepX.set g true _ 1 v1)
  have h2 : KeepX g true w (((w.setCell ⟨g, 0, none⟩ v0).setCell ⟨g, 1, none⟩ v1).setCell ⟨g, 2, none⟩ v2) := h1.trans (KeepX.set g true _ 2 v2)
  have h3 : KeepX g true w ((((w.setCell ⟨g, 0, none⟩ v0).setCell ⟨g, 1, none⟩ v1).setCell ⟨g, 2, none⟩ v2).setCell ⟨g, 3, none⟩ v3) := h2.trans (KeepX.set g true _ 3 v3)
  have h4 : KeepX g true w (((((w.setCell ⟨g, 0, none⟩ v0).setCell ⟨g, 1, none⟩ v1).setCell ⟨g, 2, none⟩ v2).setCell ⟨g, 3, none⟩ v3).setCell ⟨g, 4, none⟩ v4) := h3.trans (KeepX.set g true _ 4 v4)
  have h5 : KeepX g true w ((((((w.setCell ⟨g, 0, none⟩ v0).setCell ⟨g, 1, none⟩ v1).setCell ⟨g, 2, none⟩ v2).setCell ⟨g, 3, none⟩ v3).setCell ⟨g, 4, none⟩ v4).setCell ⟨g, 5, none⟩ v5) := h4.trans (KeepX.set g true _ 5 v5)
  have h6 : KeepX g true w (((((((w.setCell ⟨g, 0, none⟩ v0).setCell ⟨g, 1, none⟩ v1).setCell ⟨g, 2, none⟩ v2).setCell ⟨g, 3, none⟩ v3).setCell ⟨g, 4, none⟩ v4).setCell ⟨g, 5, none⟩ v5).setCell ⟨g, 6, none⟩ v6) := h5.trans (KeepX.set g true _ 6 v6)
  have h7 : KeepX g true w ((((((((w.setCell ⟨g, 0, none⟩ v0).setCell ⟨g, 1, none⟩ v1).setCell ⟨g, 2, none⟩ v2).setCell ⟨g, 3, none⟩ v3).setCell ⟨g, 4, none⟩ v4).setCell ⟨g, 5, none⟩ v5).setCell ⟨g, 6, none⟩ v6).setCell ⟨g, 7, none⟩ v7) := h6.trans (KeepX.set g true _ 7 v7)
  have h8 : KeepX g true w (((((((((w.setCell ⟨g, 0, none⟩ v0).setCell ⟨g, 1, none⟩ v1).setCell ⟨g, 2, none⟩ v2).setCell ⟨g, 3, none⟩ v3).setCell ⟨g, 4, none⟩ v4).setCell ⟨g, 5, none⟩ v5).setCell ⟨g, 6, none⟩ v6).setCell ⟨g, 7, none⟩ v7).setCell ⟨g, 8, none⟩ v8) := h7.trans (KeepX.set g true _ 8 v8)
  have h9 : KeepX g true w ((((((((((w.setCell ⟨g, 0, none⟩ v0).setCell ⟨g, 1, none⟩ v1).setCell ⟨g, 2, none⟩ v2).setCell ⟨g, 3, none⟩ v3).setCell ⟨g, 4, none⟩ v4).setCell ⟨g, 5, none⟩ v5).setCell ⟨g, 6, none⟩ v6).setCell ⟨g, 7, none⟩ v7).setCell ⟨g, 8, none⟩ v8).setCell ⟨g, 9, none⟩ v9) := h8.trans (KeepX.set g true _ 9 v9)
  have h10 : KeepX g true w (((((((((((w.setCell ⟨g, 0, none⟩ v0).setCell ⟨g, 1, none⟩ v1).setCell ⟨g, 2, none⟩ v2).setCell ⟨g, 3, none⟩ v3).setCell ⟨g, 4, none⟩ v4).setCell ⟨g, 5, none⟩ v5).setCell ⟨g, 6, none⟩ v6).setCell ⟨g, 7, none⟩ v7).setCell ⟨g, 8, none⟩ v8).setCell ⟨g, 9, none⟩ v9).setCell ⟨g, 10, none⟩ v10) := h9.trans (KeepX.set g true _ 10 v10)
  exact h10
/-- The same: the program that does nothing. -/
def FailF (w0 : World) (hp ha : Nat) (nm : Bs) (L : List Bs) (v : Value) (w : World) : Prop :=
  v = .int .i64 0 ∧ TAt w0 w hp nm L 3 false 1 [] [] ∧ Blk w ha 55 #[.int .i64 0, .int .i64 0, .int .i64 0, .slice none 0 0, .slice none 0 0, .int .i64 0, .int .i64 0, .int .i64 0, .int .i64 0, .int .i64 0, .int .i64 0]
theorem TAt.ext {w0 w : World} {hp : Nat} {nm : Bs} {L : List Bs} {d st : Int} {q : Bool} {inp out : Bs} (h : TAt w0 w hp nm L d q st inp out) : Ext w0 w := by
  obtain ⟨_, _, _, _, _, _, _, _, _, h⟩ := h
  exact h.ext
theorem ans_nob {er a0 : Int} {A : Option Addr} {n c : Nat} : ∀ (i : Nat) (x : Int), (#[.int .i64 er, .int .i64 a0, .int .i64 0, .slice A n c, .slice none 0 0, .int .i64 0, .int .i64 0, .int .i64 0, .int .i64 0, .int .i64 0, .int .i64 0] : Array Value)[i]? ≠ some (.int .u8 x) := by
  intro i x h
  match i, h with
  | 0, h => simp at h
  | 1, h => simp at h
  | 2, h => simp at h
  | 3, h => simp at h
  | 4, h => simp at h
  | 5, h => simp at h
  | 6, h => simp at h
  | 7, h => simp at h
  | 8, h => simp at h
  | 9, h => simp at h
  | 10, h => simp at h
  | i + 11, h => simp at h
/-- A store into another block: the program stays. -/
theorem TAt.far {w0 w w' : World} {hp g : Nat} {nm : Bs} {L : List Bs} {d : Int} {q : Bool} {st : Int} {inp out : Bs} {t : TypeId} {cs : Array Value} (h : TAt w0 w hp nm L d q st inp out) (hk : KeepX g true w w') (hb : Blk w g t cs) (hc : ∀ (i : Nat) (x : Int), cs[i]? ≠ some (.int .u8 x)) (ht : t ≠ 80 ∧ t ≠ 9 ∧ t ≠ 5) (hg : w0.heap.size ≤ g) : TAt w0 w' hp nm L d q st inp out := by
  have hne := other_ne h hb ht.1
  obtain ⟨A, n, c, Ai, mi, ci, Ao, mo, co, h⟩ := h
  exact ⟨A, n, c, Ai, mi, ci, Ao, mo, co, hk.blk h.box (Ne.symm hne) (.inl rfl), h.ge, hk.ext (u := true) h.ext hg, hk.own h.args (own_blk_ne h.args hb (Ne.symm ht.2.1)) (.inl rfl), hk.own h.inn (own_blk_ne h.inn hb (Ne.symm ht.2.2)) (.inl rfl), hk.bytes h.outr hb hc, h.oc⟩
/-- The same: a program that writes. -/
def FailE (w0 : World) (hp ha : Nat) (nm : Bs) (L : List Bs) (k : Nat) (o : Bs) (v : Value) (w : World) : Prop :=
  ∃ (j : Nat) (q : Bool), v = .int .i64 (j : Int) ∧ j ≤ k ∧ TAt w0 w hp nm L 2 q 0 [] o ∧ Blk w ha 55 #[.int .i64 0, .int .i64 0, .int .i64 0, .slice none 0 0, .slice none 0 0, .int .i64 0, .int .i64 0, .int .i64 0, .int .i64 0, .int .i64 0, .int .i64 0]
set_option maxHeartbeats 8000000 in
set_option maxRecDepth 100000 in
theorem fail_walk (x a b z1 z2 : Int) (s : Bs) (w : World) (bx : -9223372036854775808 ≤ x ∧ x ≤ 9223372036854775807) (ba : -9223372036854775808 ≤ a ∧ a ≤ 9223372036854775807) (bb : -9223372036854775808 ≤ b ∧ b ≤ 9223372036854775807) (hs : (str s).size ≤ 9223372036854775807) (b1 : -9223372036854775808 ≤ z1 ∧ z1 ≤ 9223372036854775807) (b2 : -9223372036854775808 ≤ z2 ∧ z2 ≤ 9223372036854775807) (hL : LibOk w) :
    Calls Tryz.prog 7 #[.agg #[.int .i64 x, .int .i64 a, .int .i64 b, .string (str s)], .int .i64 z1, .int .i64 z2] w fun e w' => e = .returned (.bool true) ∧ Ext w w' := by
  have HAR := hide (fun W => args_any x a b s W bx ba bb hs)
  have HR1 := hide (fun W => rest_any z1 20 W b1.1 b1.2 (by omega) (by omega))
  have HR2 := hide (fun W => rest_any z2 4 W b2.1 b2.2 (by omega) (by omega))
  have hr0 := restZ_lo z1 20 (by omega)
  have hr1 := restZ_hi z1 20 (by omega)
  generalize restZ z1 20 = r1 at *
  obtain ⟨k, hk, hk3⟩ : ∃ k : Nat, restZ z2 4 = (k : Int) ∧ k ≤ 3 := ⟨(restZ z2 4).toNat, by have := restZ_lo z2 4 (by omega); omega, by have := restZ_lo z2 4 (by omega); have := restZ_hi z2 4 (by omega); omega⟩
  rw [hk] at HR2
  clear hk bx ba bb b1 b2 hs
  have HLL := hide hL
  have HBR := hide (Blk.new w 38 #[.int .i64 x, .int .i64 a, .int .i64 b, .string (str s)])
  have HXR := hide ((Ext.refl w).alloc (.cells #[.int .i64 x, .int .i64 a, .int .i64 b, .string (str s)] 38))
  clear hL
  generalize str s = S at *
  go_enter Tryz.func7, Tryz.ntmps7
  go_upto_region 1 with fail
  obtain ⟨W, hW⟩ : ∃ W, W = w.alloc (.cells #[.int .i64 x, .int .i64 a, .int .i64 b, .string S] 38) := ⟨_, rfl⟩
  rw [← hW] at HBR HXR ⊢
  clear hW
  have r0 : W.cell? ⟨w.heap.size, 0, none⟩ = some (.int .i64 x) := HBR.out.cell 0
  have r1' : W.cell? ⟨w.heap.size, 1, none⟩ = some (.int .i64 a) := HBR.out.cell 1
  have r2 : W.cell? ⟨w.heap.size, 2, none⟩ = some (.int .i64 b) := HBR.out.cell 2
  have r3 : W.cell? ⟨w.heap.size, 3, none⟩ = some (.string S) := HBR.out.cell 3
  go_wp2_with fail
  refine (HAR.out W).mono ?_
  rintro e w1 ⟨nm, L, A, n, c, rfl, hra, hnc, hc2, hrd, hx1⟩
  clear r0 r1' r2 r3 HBR HAR
  have HK := kind_of hra
  have HX1 := hide (HXR.out.trans hx1)
  have HRD := hide hrd
  clear hra hrd hx1 HXR
  have hn2 : n ≤ 1000000 := by omega
  generalize hN : str nm = N
  have HN := hide hN
  clear hN
  rcases HK with ⟨hc, e1, e2⟩ | ⟨f, hm, hc, e1, hf⟩ | ⟨hm, hc, e1, e2⟩
  · have HST := hide (start_plain hc e1 e2 A n c w1.heap.size w1 (HLL.out.ext HX1.out) HRD.out (Nat.le_refl _) hnc hn2)
    rw [HN.out] at HST
    go_wp2_with fail
    refine HST.out.mono ?_
    rintro e w2 ⟨hp, A', c', rfl, h1⟩
    have HG2 := hide (show w1.heap.size ≤ w2.heap.size from h1.ext.size)
    have HT := hide (show TAt w1 w2 hp nm L 1 false 0 [] [] from ⟨_, _, _, _, _, _, _, _, _, h1⟩)
    clear h1 HST hc e1 e2 HRD HLL
    go_wp2_with fail
    refine (HR1.out w2).mono ?_
    rintro e w3 ⟨rfl, rfl⟩
    go_upto_region 6 with fail
    generalize hy : 1 + r1 = y
    go_upto_if 32 with fail
    obtain ⟨er, her, h9, h0⟩ : ∃ er : Int, (if y = 9 then 10 else y) = er ∧ er ≠ 9 ∧ er ≠ 0 := ⟨_, rfl, by split <;> omega, by split <;> omega⟩
    go_cut [1] (fun v wx => v = .int .i64 er ∧ w2 = wx)
    case first =>
      by_cases h8 : y = 9
      · rw [if_pos h8] at her
        have her2 := hide her
        clear her h9 h0 hy
        subst h8
        go_wp2_with fail
        go_meet
        exact ⟨by rw [← her2.out], rfl⟩
      · have t1 : (y == 9) = false := beq_eq_false_iff_ne.2 h8
        rw [if_neg h8] at her
        have her2 := hide her
        clear her h9 h0 hy
        go_wp2_with fail
        go_meet
        exact ⟨by rw [← her2.out], rfl⟩
    case rest =>
      obtain ⟨rfl, rfl⟩ := hcut
      have H9 := hide h9
      have H0 := hide h0
      clear her h9 h0 hy
      have HB3 := hide (Blk.new w2 55 #[.int .i64 0, .int .i64 0, .int .i64 0, .slice none 0 0, .slice none 0 0, .int .i64 0, .int .i64 0, .int .i64 0, .int .i64 0, .int .i64 0, .int .i64 0])
      have HT3 := hide (HT.out.more ((Ext.refl w2).alloc (.cells #[.int .i64 0, .int .i64 0, .int .i64 0, .slice none 0 0, .slice none 0 0, .int .i64 0, .int .i64 0, .int .i64 0, .int .i64 0, .int .i64 0, .int .i64 0] 55)))
      clear HT
      go_wp2_with fail
      generalize World.alloc _ _ = W3 at *
      generalize w2.heap.size = ha at *
      refine (HR2.out W3).mono ?_
      rintro e w4 ⟨rfl, rfl⟩
      go_wp2_with fail
      go_loopw [37] (FailP w1 hp ha nm L k) (fun v _ => k - (intOf v).toNat)
      case atStart => exact ⟨0, [], [], none, 0, 0, rfl, Nat.zero_le _, Nat.le_refl _, by omega, HT3.out, HB3.out, ⟨rfl, fun h => absurd h (by omega)⟩, fun h => absurd h (by omega)⟩
      case round =>
        obtain ⟨j, inp, ds, Ad, nd, cd, rfl, hj, hil, hnd2, ht, hba, hrd, hnd⟩ := hrel
        have HNX := hide (next_more (cd := cd) ht hrd (Nat.le_refl _) (fun hq => hnd (of_decide_eq_true hq)) (by omega))
        have hil2 : (if decide (0 < j) = true then inp ++ ds else inp).length ≤ 2 * (j + 1) := by
          split
          · rw [List.length_append, bytes_len hrd]; omega
          · omega
        generalize (if decide (0 < j) = true then inp ++ ds else inp) = inp2 at *
        clear hrd hnd
        have HBA := hide hba
        have hne := other_ne ht hba (by decide)
        have hg1 : w1.heap.size ≤ ha := by have := HG2.out; omega
        clear ht hba
        have a0 := HBA.out.cell 0
        have a1 := HBA.out.cell 1
        have a2 := HBA.out.cell 2
        have a3 := HBA.out.cell 3
        have a4 := HBA.out.cell 4
        have a5 := HBA.out.cell 5
        have a6 := HBA.out.cell 6
        have a7 := HBA.out.cell 7
        have a8 := HBA.out.cell 8
        have a9 := HBA.out.cell 9
        have a10 := HBA.out.cell 10
        simp only [List.getElem?_toArray, List.getElem?_cons_zero, List.getElem?_cons_succ] at a0 a1 a2 a3 a4 a5 a6 a7 a8 a9 a10
        by_cases hlt : j < k
        · go_wp2_with fail
          refine HNX.out.mono ?_
          rintro e w5 ⟨he, ht5, hk5⟩
          obtain rfl := he
          have HT5 := hide ht5
          have HB5 := hide (hk5.blk HBA.out hne (.inr (by decide)))
          clear ht5 hk5 HBA a0 a1 a2 a3 a4 a5 a6 a7 a8 a9 a10
          go_upto_region 12 with fail
          generalize hW6 : World.alloc _ _ = W6
          have HX56 := hide (show Ext w5 W6 from by rw [← hW6]; ((repeat (first | with_reducible exact Ext.refl _ | with_reducible assumption | with_reducible refine Ext.alloc ?_ _ | with_reducible refine Ext.drew ?_ | with_reducible refine Ext.drewN ?_ _ | with_reducible refine Ext.setCell ?_ (by first | exact Nat.le_refl _ | assumption | (simp; done) | omega) _ | with_reducible refine Ext.trans ?_ (by with_reducible assumption))); done))
          have HBC := hide (show Blk W6 w5.heap.size 57 #[.int .i64 7, .int .i64 0, .int .i64 0, .int .i64 32, .string ⟨#[]⟩, .string ⟨#[]⟩, .slice none 0 0] from by rw [← hW6]; exact Blk.new _ _ _)
          have HB6 := hide (HB5.out.ext HX56.out)
          have HT6 := hide (HT5.out.more HX56.out)
          have hga : ha ≠ w5.heap.size := by have := HB5.out.lt; omega
          have hgc : w1.heap.size ≤ w5.heap.size := by have := HB5.out.lt; omega
          clear hW6 HX56 HT5 HB5
          generalize w5.heap.size = gc at *
          have f0 := HB6.out.frozen 0
          have f1 := HB6.out.frozen 1
          have f2 := HB6.out.frozen 2
          have f3 := HB6.out.frozen 3
          have f4 := HB6.out.frozen 4
          have f5 := HB6.out.frozen 5
          have f6 := HB6.out.frozen 6
          have f7 := HB6.out.frozen 7
          have f8 := HB6.out.frozen 8
          have f9 := HB6.out.frozen 9
          have f10 := HB6.out.frozen 10
          have k0 := HB6.out.cell 0
          have k1 := HB6.out.cell 1
          have k2 := HB6.out.cell 2
          have k3 := HB6.out.cell 3
          have k4 := HB6.out.cell 4
          have k5 := HB6.out.cell 5
          have k6 := HB6.out.cell 6
          have k7 := HB6.out.cell 7
          have k8 := HB6.out.cell 8
          have k9 := HB6.out.cell 9
          have k10 := HB6.out.cell 10
          simp only [List.getElem?_toArray, List.getElem?_cons_zero, List.getElem?_cons_succ] at k0 k1 k2 k3 k4 k5 k6 k7 k8 k9 k10
          go_upto_region 13 with fail
          generalize hW7 : World.setCell _ _ _ = W7 at *
          have HK7 := hide (show KeepX ha true W6 W7 from by rw [← hW7]; exact KeepX.set11 ha W6 _ _ _ _ _ _ _ _ _ _ _)
          have HB7 := hide (show Blk W7 ha 55 #[.int .i64 0, .int .i64 0, .int .i64 0, .slice none 0 0, .slice none 0 0, .int .i64 0, .int .i64 0, .int .i64 0, .int .i64 0, .int .i64 0, .int .i64 0] from by rw [← hW7]; exact Blk.set11 HB6.out _ _ _ _ _ _ _ _ _ _ _)
          have HC7 := hide (HK7.out.blk HBC.out (Ne.symm hga) (.inl rfl))
          have HT7 := hide (HT6.out.far HK7.out HB6.out ans_nob (by decide) hg1)
          clear hW7 HK7 HB6 HBC HT6 f0 f1 f2 f3 f4 f5 f6 f7 f8 f9 f10 k0 k1 k2 k3 k4 k5 k6 k7 k8 k9 k10
          have n0 := HC7.out.cell 0
          simp only [List.getElem?_toArray, List.getElem?_cons_zero] at n0
          have f3 := HB7.out.frozen 3
          have f1 := HB7.out.frozen 1
          have k3 : W7.cell? ⟨ha, 3, none⟩ = some (.slice none 0 0) := HB7.out.cell 3
          have k1 : W7.cell? ⟨ha, 1, none⟩ = some (.int .i64 0) := HB7.out.cell 1
          have hkc := Lib.run_convert_bytes_const (P := Tryz.prog) W7 22 5 #[.int .u8 97, .int .u8 10] 2 2 Tryz.underlying22 Tryz.underlying5
          have hsz : (#[Value.int .u8 97, .int .u8 10] : Array Value).size = 2 := rfl
          rw [hsz] at hkc
          have HBA7 := hide (HB7.out.alloc (.cells #[.int .u8 97, .int .u8 10] 5 (2, 3)))
          have HTA7 := hide (HT7.out.more ((Ext.refl W7).alloc (.cells #[.int .u8 97, .int .u8 10] 5 (2, 3))))
          have HCA7 := hide (HC7.out.alloc (.cells #[.int .u8 97, .int .u8 10] 5 (2, 3)))
          have HR7 := hide (two_bytes W7)
          have f3 := HBA7.out.frozen 3
          have k3 : (W7.alloc (.cells #[.int .u8 97, .int .u8 10] 5 (2, 3))).cell? ⟨ha, 3, none⟩ = some (.slice none 0 0) := HBA7.out.cell 3
          have hgd : ha ≠ W7.heap.size := by have := HB7.out.lt; omega
          go_upto_region 15 with fail
          generalize hW8 : World.setCell _ _ _ = W8 at *
          have HB8 := hide (show Blk W8 ha 55 (#[.int .i64 0, .int .i64 0, .int .i64 0, .slice (some ⟨W7.heap.size, 0, none⟩) 2 2, .slice none 0 0, .int .i64 0, .int .i64 0, .int .i64 0, .int .i64 0, .int .i64 0, .int .i64 0]) from by rw [← hW8]; exact HBA7.out.set_ 3 _)
          have HK8 := hide (show KeepX ha true (W7.alloc (.cells #[.int .u8 97, .int .u8 10] 5 (2, 3))) W8 from by rw [← hW8]; exact KeepX.set ha true _ 3 _)
          have HC8 := hide (HK8.out.blk HCA7.out (Ne.symm hga) (.inl rfl))
          have HT8 := hide (HTA7.out.far HK8.out HBA7.out ans_nob (by decide) hg1)
          have HR8 := hide (HK8.out.bytes HR7.out HBA7.out ans_nob)
          clear hW8 HK8 HBA7 HTA7 HCA7 HR7 HB7 HT7 HC7 n0 f1 f3 k1 k3 hkc hgd
          have n0 := HC8.out.cell 0
          simp only [List.getElem?_toArray, List.getElem?_cons_zero] at n0
          go_wp2_with fail
          go_roundw
          case rel => exact ⟨j + 1, inp2, [97, 10], _, 2, 2, by first | rfl | go_num, by omega, hil2, by omega, by rw [decide_eq_true (show 0 < j + 1 by omega)]; exact HT8.out, HB8.out, HR8.out, fun _ => by omega⟩
          case measure => simp [intOf]; omega
        · obtain rfl : j = k := by omega
          go_wp2_with fail
          refine HNX.out.mono ?_
          rintro e w5 ⟨he, ht5, hk5⟩
          obtain rfl := he
          have HT5 := hide ht5
          have HB5 := hide (hk5.blk HBA.out hne (.inr (by decide)))
          clear ht5 hk5 HBA a0 a1 a2 a3 a4 a5 a6 a7 a8 a9 a10
          go_upto_region 21 with fail
          generalize hW6 : World.alloc _ _ = W6
          have HX56 := hide (show Ext w5 W6 from by rw [← hW6]; ((repeat (first | with_reducible exact Ext.refl _ | with_reducible assumption | with_reducible refine Ext.alloc ?_ _ | with_reducible refine Ext.drew ?_ | with_reducible refine Ext.drewN ?_ _ | with_reducible refine Ext.setCell ?_ (by first | exact Nat.le_refl _ | assumption | (simp; done) | omega) _ | with_reducible refine Ext.trans ?_ (by with_reducible assumption))); done))
          have HBC := hide (show Blk W6 w5.heap.size 57 #[.int .i64 7, .int .i64 0, .int .i64 0, .int .i64 32, .string ⟨#[]⟩, .string ⟨#[]⟩, .slice none 0 0] from by rw [← hW6]; exact Blk.new _ _ _)
          have HB6 := hide (HB5.out.ext HX56.out)
          have HT6 := hide (HT5.out.more HX56.out)
          have hga : ha ≠ w5.heap.size := by have := HB5.out.lt; omega
          have hgc : w1.heap.size ≤ w5.heap.size := by have := HB5.out.lt; omega
          clear hW6 HX56 HT5 HB5
          generalize w5.heap.size = gc at *
          have n0 := HBC.out.cell 0
          simp only [List.getElem?_toArray, List.getElem?_cons_zero] at n0
          go_wp2_with fail
          refine (next_err HT6.out er H9.out H0.out).mono ?_
          rintro e w8 ⟨he, ht8, hk8⟩
          obtain rfl := he
          have HT8 := hide ht8
          have HB8 := hide (hk8.blk HBC.out (other_ne HT6.out HBC.out (by decide)) (.inl rfl))
          clear ht8 hk8 HBC HT6 HB6 n0
          have f0 := HB8.out.frozen 0
          have f1 := HB8.out.frozen 1
          have f2 := HB8.out.frozen 2
          have f3 := HB8.out.frozen 3
          have f4 := HB8.out.frozen 4
          have f5 := HB8.out.frozen 5
          have f6 := HB8.out.frozen 6
          have k0 := HB8.out.cell 0
          have k1 := HB8.out.cell 1
          have k2 := HB8.out.cell 2
          have k3 := HB8.out.cell 3
          have k4 := HB8.out.cell 4
          have k5 := HB8.out.cell 5
          have k6 := HB8.out.cell 6
          simp only [List.getElem?_toArray, List.getElem?_cons_zero, List.getElem?_cons_succ] at k0 k1 k2 k3 k4 k5 k6
          go_upto_region 24 with fail
          generalize hW9 : World.setCell _ _ _ = W9 at *
          have HB9 := hide (show Blk W9 gc 57 #[.int .i64 1, .int .i64 2, .int .i64 0, .int .i64 0, .string ⟨#[]⟩, .string ⟨#[]⟩, .slice none 0 0] from by rw [← hW9]; exact Blk.set7 HB8.out _ _ _ _ _ _ _)
          have HK9 := hide (show KeepX gc true w8 W9 from by rw [← hW9]; exact KeepX.set7 gc w8 _ _ _ _ _ _ _)
          have HT9 := hide (HT8.out.far HK9.out HB8.out call_nob (by decide) hgc)
          clear hW9 HK9 HB8 HT8 f0 f1 f2 f3 f4 f5 f6 k0 k1 k2 k3 k4 k5 k6
          go_wp2_with fail
          refine (next_f3 (u := true) HT9.out 0 0 none 0 0).mono ?_
          rintro e w10 ⟨he, ht10, hk10⟩
          obtain rfl := he
          have HT10 := hide ht10
          have HB10 := hide (hk10.blk HB9.out (other_ne HT9.out HB9.out (by decide)) (.inl rfl))
          clear ht10 hk10 HT9 HB9
          go_upto_region 25 with fail
          generalize hW11 : World.alloc _ _ = W11
          have HX11 := hide (show Ext w10 W11 from by rw [← hW11]; ((repeat (first | with_reducible exact Ext.refl _ | with_reducible assumption | with_reducible refine Ext.alloc ?_ _ | with_reducible refine Ext.drew ?_ | with_reducible refine Ext.drewN ?_ _ | with_reducible refine Ext.setCell ?_ (by first | exact Nat.le_refl _ | assumption | (simp; done) | omega) _ | with_reducible refine Ext.trans ?_ (by with_reducible assumption))); done))
          have HD11 := hide (show Blk W11 w10.heap.size 57 #[.int .i64 1, .int .i64 2, .int .i64 0, .int .i64 0, .string ⟨#[]⟩, .string ⟨#[]⟩, .slice none 0 0] from by rw [← hW11]; exact Blk.new _ _ _)
          have HB11 := hide (HB10.out.ext HX11.out)
          have HE11 := hide (HX1.out.trans (HT10.out.ext.trans HX11.out))
          clear hW11 HX11 HT10 HB10
          generalize w10.heap.size = gd at *
          have p0 := HB11.out.cell 0
          have p1 := HB11.out.cell 1
          have q0 := HD11.out.cell 0
          have q1 := HD11.out.cell 1
          simp only [List.getElem?_toArray, List.getElem?_cons_zero, List.getElem?_cons_succ] at p0 p1 q0 q1
          go_wp2_with fail
          go_ret
          exact ⟨rfl, HE11.out⟩
  · have HST := hide (start_early hm hc (.inl e1) A n c w1.heap.size w1 (HLL.out.ext HX1.out) HRD.out (Nat.le_refl _) hnc hn2)
    rw [HN.out] at HST
    go_wp2_with fail
    refine HST.out.mono ?_
    rintro e w2 ⟨hp, A', c', Ao, mo, co, rfl, h1⟩
    have HG2 := hide (show w1.heap.size ≤ w2.heap.size from h1.ext.size)
    rw [show doingOf (f []) = 2 from if_neg hf] at h1
    have HT := hide (show TAt w1 w2 hp nm L 2 false 0 [] (f []) from ⟨_, _, _, _, _, _, _, _, _, h1⟩)
    have HF := hide hf
    generalize f [] = o at *
    clear hf
    clear h1 HST hc e1 hm HRD HLL
    go_wp2_with fail
    refine (HR1.out w2).mono ?_
    rintro e w3 ⟨rfl, rfl⟩
    go_upto_region 6 with fail
    generalize hy : 1 + r1 = y
    go_upto_if 32 with fail
    obtain ⟨er, her, h9, h0⟩ : ∃ er : Int, (if y = 9 then 10 else y) = er ∧ er ≠ 9 ∧ er ≠ 0 := ⟨_, rfl, by split <;> omega, by split <;> omega⟩
    go_cut [1] (fun v wx => v = .int .i64 er ∧ w2 = wx)
    case first =>
      by_cases h8 : y = 9
      · rw [if_pos h8] at her
        have her2 := hide her
        clear her h9 h0 hy
        subst h8
        go_wp2_with fail
        go_meet
        exact ⟨by rw [← her2.out], rfl⟩
      · have t1 : (y == 9) = false := beq_eq_false_iff_ne.2 h8
        rw [if_neg h8] at her
        have her2 := hide her
        clear her h9 h0 hy
        go_wp2_with fail
        go_meet
        exact ⟨by rw [← her2.out], rfl⟩
    case rest =>
      obtain ⟨rfl, rfl⟩ := hcut
      have H9 := hide h9
      have H0 := hide h0
      clear her h9 h0 hy
      have HB3 := hide (Blk.new w2 55 #[.int .i64 0, .int .i64 0, .int .i64 0, .slice none 0 0, .slice none 0 0, .int .i64 0, .int .i64 0, .int .i64 0, .int .i64 0, .int .i64 0, .int .i64 0])
      have HT3 := hide (HT.out.more ((Ext.refl w2).alloc (.cells #[.int .i64 0, .int .i64 0, .int .i64 0, .slice none 0 0, .slice none 0 0, .int .i64 0, .int .i64 0, .int .i64 0, .int .i64 0, .int .i64 0, .int .i64 0] 55)))
      clear HT
      go_wp2_with fail
      generalize World.alloc _ _ = W3 at *
      generalize w2.heap.size = ha at *
      refine (HR2.out W3).mono ?_
      rintro e w4 ⟨rfl, rfl⟩
      go_wp2_with fail
      go_loopw [37] (FailE w1 hp ha nm L k o) (fun v _ => k - (intOf v).toNat)
      case atStart => exact ⟨0, false, rfl, Nat.zero_le _, HT3.out, HB3.out⟩
      case round =>
        obtain ⟨j, q, rfl, hj, ht, hba⟩ := hrel
        have HNX := hide (next_same ht HF.out)
        have HBA := hide hba
        have hne := other_ne ht hba (by decide)
        have hg1 : w1.heap.size ≤ ha := by have := HG2.out; omega
        clear ht hba
        have a0 := HBA.out.cell 0
        have a1 := HBA.out.cell 1
        have a2 := HBA.out.cell 2
        have a3 := HBA.out.cell 3
        have a4 := HBA.out.cell 4
        have a5 := HBA.out.cell 5
        have a6 := HBA.out.cell 6
        have a7 := HBA.out.cell 7
        have a8 := HBA.out.cell 8
        have a9 := HBA.out.cell 9
        have a10 := HBA.out.cell 10
        simp only [List.getElem?_toArray, List.getElem?_cons_zero, List.getElem?_cons_succ] at a0 a1 a2 a3 a4 a5 a6 a7 a8 a9 a10
        by_cases hlt : j < k
        · go_wp2_with fail
          refine HNX.out.mono ?_
          rintro e w5 ⟨⟨Aw, mw, cw, hmw, hmc, hcm, he, -⟩, ht5, hk5⟩
          obtain rfl := he
          clear hmw hmc hcm
          have HT5 := hide ht5
          have HB5 := hide (hk5.blk HBA.out hne (.inr (by decide)))
          clear ht5 hk5 HBA a0 a1 a2 a3 a4 a5 a6 a7 a8 a9 a10
          go_upto_region 12 with fail
          generalize hW6 : World.alloc _ _ = W6
          have HX56 := hide (show Ext w5 W6 from by rw [← hW6]; ((repeat (first | with_reducible exact Ext.refl _ | with_reducible assumption | with_reducible refine Ext.alloc ?_ _ | with_reducible refine Ext.drew ?_ | with_reducible refine Ext.drewN ?_ _ | with_reducible refine Ext.setCell ?_ (by first | exact Nat.le_refl _ | assumption | (simp; done) | omega) _ | with_reducible refine Ext.trans ?_ (by with_reducible assumption))); done))
          have HBC := hide (show Blk W6 w5.heap.size 57 #[.int .i64 8, .int .i64 1, .int .i64 0, .int .i64 (mw : Int), .string ⟨#[]⟩, .string ⟨#[]⟩, .slice Aw mw cw] from by rw [← hW6]; exact Blk.new _ _ _)
          have HB6 := hide (HB5.out.ext HX56.out)
          have HT6 := hide (HT5.out.more HX56.out)
          have hga : ha ≠ w5.heap.size := by have := HB5.out.lt; omega
          have hgc : w1.heap.size ≤ w5.heap.size := by have := HB5.out.lt; omega
          clear hW6 HX56 HT5 HB5
          generalize w5.heap.size = gc at *
          have f0 := HB6.out.frozen 0
          have f1 := HB6.out.frozen 1
          have f2 := HB6.out.frozen 2
          have f3 := HB6.out.frozen 3
          have f4 := HB6.out.frozen 4
          have f5 := HB6.out.frozen 5
          have f6 := HB6.out.frozen 6
          have f7 := HB6.out.frozen 7
          have f8 := HB6.out.frozen 8
          have f9 := HB6.out.frozen 9
          have f10 := HB6.out.frozen 10
          have k0 := HB6.out.cell 0
          have k1 := HB6.out.cell 1
          have k2 := HB6.out.cell 2
          have k3 := HB6.out.cell 3
          have k4 := HB6.out.cell 4
          have k5 := HB6.out.cell 5
          have k6 := HB6.out.cell 6
          have k7 := HB6.out.cell 7
          have k8 := HB6.out.cell 8
          have k9 := HB6.out.cell 9
          have k10 := HB6.out.cell 10
          simp only [List.getElem?_toArray, List.getElem?_cons_zero, List.getElem?_cons_succ] at k0 k1 k2 k3 k4 k5 k6 k7 k8 k9 k10
          go_upto_region 13 with fail
          generalize hW7 : World.setCell _ _ _ = W7 at *
          have HK7 := hide (show KeepX ha true W6 W7 from by rw [← hW7]; exact KeepX.set11 ha W6 _ _ _ _ _ _ _ _ _ _ _)
          have HB7 := hide (show Blk W7 ha 55 #[.int .i64 0, .int .i64 0, .int .i64 0, .slice none 0 0, .slice none 0 0, .int .i64 0, .int .i64 0, .int .i64 0, .int .i64 0, .int .i64 0, .int .i64 0] from by rw [← hW7]; exact Blk.set11 HB6.out _ _ _ _ _ _ _ _ _ _ _)
          have HC7 := hide (HK7.out.blk HBC.out (Ne.symm hga) (.inl rfl))
          have HT7 := hide (HT6.out.far HK7.out HB6.out ans_nob (by decide) hg1)
          clear hW7 HK7 HB6 HBC HT6 f0 f1 f2 f3 f4 f5 f6 f7 f8 f9 f10 k0 k1 k2 k3 k4 k5 k6 k7 k8 k9 k10
          have n0 := HC7.out.cell 0
          simp only [List.getElem?_toArray, List.getElem?_cons_zero] at n0
          have f3 := HB7.out.frozen 3
          have f1 := HB7.out.frozen 1
          have k3 : W7.cell? ⟨ha, 3, none⟩ = some (.slice none 0 0) := HB7.out.cell 3
          have k1 : W7.cell? ⟨ha, 1, none⟩ = some (.int .i64 0) := HB7.out.cell 1
          go_upto_region 19 with fail
          generalize hW8 : World.setCell _ _ _ = W8 at *
          have HB8 := hide (show Blk W8 ha 55 #[.int .i64 0, .int .i64 0, .int .i64 0, .slice none 0 0, .slice none 0 0, .int .i64 0, .int .i64 0, .int .i64 0, .int .i64 0, .int .i64 0, .int .i64 0] from by rw [← hW8]; exact HB7.out.set_ 1 _)
          have HK8 := hide (show KeepX ha true W7 W8 from by rw [← hW8]; exact KeepX.set ha true _ 1 _)
          have HT8 := hide (HT7.out.far HK8.out HB7.out ans_nob (by decide) hg1)
          clear hW8 HK8 HB7 HT7 HC7 n0 f1 f3 k1 k3
          go_wp2_with fail
          go_roundw
          case rel => exact ⟨j + 1, true, by first | rfl | go_num, by omega, HT8.out, HB8.out⟩
          case measure => simp [intOf]; omega
        · obtain rfl : j = k := by omega
          go_wp2_with fail
          refine HNX.out.mono ?_
          rintro e w5 ⟨⟨Aw, mw, cw, hmw, hmc, hcm, he, -⟩, ht5, hk5⟩
          obtain rfl := he
          clear hmw hmc hcm
          have HT5 := hide ht5
          have HB5 := hide (hk5.blk HBA.out hne (.inr (by decide)))
          clear ht5 hk5 HBA a0 a1 a2 a3 a4 a5 a6 a7 a8 a9 a10
          go_upto_region 21 with fail
          generalize hW6 : World.alloc _ _ = W6
          have HX56 := hide (show Ext w5 W6 from by rw [← hW6]; ((repeat (first | with_reducible exact Ext.refl _ | with_reducible assumption | with_reducible refine Ext.alloc ?_ _ | with_reducible refine Ext.drew ?_ | with_reducible refine Ext.drewN ?_ _ | with_reducible refine Ext.setCell ?_ (by first | exact Nat.le_refl _ | assumption | (simp; done) | omega) _ | with_reducible refine Ext.trans ?_ (by with_reducible assumption))); done))
          have HBC := hide (show Blk W6 w5.heap.size 57 #[.int .i64 8, .int .i64 1, .int .i64 0, .int .i64 (mw : Int), .string ⟨#[]⟩, .string ⟨#[]⟩, .slice Aw mw cw] from by rw [← hW6]; exact Blk.new _ _ _)
          have HB6 := hide (HB5.out.ext HX56.out)
          have HT6 := hide (HT5.out.more HX56.out)
          have hga : ha ≠ w5.heap.size := by have := HB5.out.lt; omega
          have hgc : w1.heap.size ≤ w5.heap.size := by have := HB5.out.lt; omega
          clear hW6 HX56 HT5 HB5
          generalize w5.heap.size = gc at *
          have n0 := HBC.out.cell 0
          simp only [List.getElem?_toArray, List.getElem?_cons_zero] at n0
          go_wp2_with fail
          refine (next_err HT6.out er H9.out H0.out).mono ?_
          rintro e w8 ⟨he, ht8, hk8⟩
          obtain rfl := he
          have HT8 := hide ht8
          have HB8 := hide (hk8.blk HBC.out (other_ne HT6.out HBC.out (by decide)) (.inl rfl))
          clear ht8 hk8 HBC HT6 HB6 n0
          have f0 := HB8.out.frozen 0
          have f1 := HB8.out.frozen 1
          have f2 := HB8.out.frozen 2
          have f3 := HB8.out.frozen 3
          have f4 := HB8.out.frozen 4
          have f5 := HB8.out.frozen 5
          have f6 := HB8.out.frozen 6
          have k0 := HB8.out.cell 0
          have k1 := HB8.out.cell 1
          have k2 := HB8.out.cell 2
          have k3 := HB8.out.cell 3
          have k4 := HB8.out.cell 4
          have k5 := HB8.out.cell 5
          have k6 := HB8.out.cell 6
          simp only [List.getElem?_toArray, List.getElem?_cons_zero, List.getElem?_cons_succ] at k0 k1 k2 k3 k4 k5 k6
          go_upto_region 24 with fail
          generalize hW9 : World.setCell _ _ _ = W9 at *
          have HB9 := hide (show Blk W9 gc 57 #[.int .i64 1, .int .i64 2, .int .i64 0, .int .i64 0, .string ⟨#[]⟩, .string ⟨#[]⟩, .slice none 0 0] from by rw [← hW9]; exact Blk.set7 HB8.out _ _ _ _ _ _ _)
          have HK9 := hide (show KeepX gc true w8 W9 from by rw [← hW9]; exact KeepX.set7 gc w8 _ _ _ _ _ _ _)
          have HT9 := hide (HT8.out.far HK9.out HB8.out call_nob (by decide) hgc)
          clear hW9 HK9 HB8 HT8 f0 f1 f2 f3 f4 f5 f6 k0 k1 k2 k3 k4 k5 k6
          go_wp2_with fail
          refine (next_f3 (u := true) HT9.out 0 0 none 0 0).mono ?_
          rintro e w10 ⟨he, ht10, hk10⟩
          obtain rfl := he
          have HT10 := hide ht10
          have HB10 := hide (hk10.blk HB9.out (other_ne HT9.out HB9.out (by decide)) (.inl rfl))
          clear ht10 hk10 HT9 HB9
          go_upto_region 25 with fail
          generalize hW11 : World.alloc _ _ = W11
          have HX11 := hide (show Ext w10 W11 from by rw [← hW11]; ((repeat (first | with_reducible exact Ext.refl _ | with_reducible assumption | with_reducible refine Ext.alloc ?_ _ | with_reducible refine Ext.drew ?_ | with_reducible refine Ext.drewN ?_ _ | with_reducible refine Ext.setCell ?_ (by first | exact Nat.le_refl _ | assumption | (simp; done) | omega) _ | with_reducible refine Ext.trans ?_ (by with_reducible assumption))); done))
          have HD11 := hide (show Blk W11 w10.heap.size 57 #[.int .i64 1, .int .i64 2, .int .i64 0, .int .i64 0, .string ⟨#[]⟩, .string ⟨#[]⟩, .slice none 0 0] from by rw [← hW11]; exact Blk.new _ _ _)
          have HB11 := hide (HB10.out.ext HX11.out)
          have HE11 := hide (HX1.out.trans (HT10.out.ext.trans HX11.out))
          clear hW11 HX11 HT10 HB10
          generalize w10.heap.size = gd at *
          have p0 := HB11.out.cell 0
          have p1 := HB11.out.cell 1
          have q0 := HD11.out.cell 0
          have q1 := HD11.out.cell 1
          simp only [List.getElem?_toArray, List.getElem?_cons_zero, List.getElem?_cons_succ] at p0 p1 q0 q1
          go_wp2_with fail
          go_ret
          exact ⟨rfl, HE11.out⟩
  · have HST := hide (start_early hm hc (.inr ⟨e1, e2⟩) A n c w1.heap.size w1 (HLL.out.ext HX1.out) HRD.out (Nat.le_refl _) hnc hn2)
    rw [HN.out] at HST
    go_wp2_with fail
    refine HST.out.mono ?_
    rintro e w2 ⟨hp, A', c', Ao, mo, co, rfl, h1⟩
    have HG2 := hide (show w1.heap.size ≤ w2.heap.size from h1.ext.size)
    have HT := hide (show TAt w1 w2 hp nm L 3 false 1 [] [] from ⟨_, _, _, _, _, _, _, _, _, h1⟩)
    have e3 : (N.toList == [102, 97, 108, 115, 101]) = true := by rw [← HN.out]; exact e2
    clear h1 HST hc e1 e2 hm HRD HLL
    go_wp2_with fail
    refine (HR1.out w2).mono ?_
    rintro e w3 ⟨rfl, rfl⟩
    go_upto_region 6 with fail
    generalize hy : 1 + r1 = y
    go_upto_if 32 with fail
    obtain ⟨er, her, h9, h0⟩ : ∃ er : Int, (if y = 9 then 10 else y) = er ∧ er ≠ 9 ∧ er ≠ 0 := ⟨_, rfl, by split <;> omega, by split <;> omega⟩
    go_cut [1] (fun v wx => v = .int .i64 er ∧ w2 = wx)
    case first =>
      by_cases h8 : y = 9
      · rw [if_pos h8] at her
        have her2 := hide her
        clear her h9 h0 hy
        subst h8
        go_wp2_with fail
        go_meet
        exact ⟨by rw [← her2.out], rfl⟩
      · have t1 : (y == 9) = false := beq_eq_false_iff_ne.2 h8
        rw [if_neg h8] at her
        have her2 := hide her
        clear her h9 h0 hy
        go_wp2_with fail
        go_meet
        exact ⟨by rw [← her2.out], rfl⟩
    case rest =>
      obtain ⟨rfl, rfl⟩ := hcut
      have H9 := hide h9
      have H0 := hide h0
      clear her h9 h0 hy
      have HB3 := hide (Blk.new w2 55 #[.int .i64 0, .int .i64 0, .int .i64 0, .slice none 0 0, .slice none 0 0, .int .i64 0, .int .i64 0, .int .i64 0, .int .i64 0, .int .i64 0, .int .i64 0])
      have HT3 := hide (HT.out.more ((Ext.refl w2).alloc (.cells #[.int .i64 0, .int .i64 0, .int .i64 0, .slice none 0 0, .slice none 0 0, .int .i64 0, .int .i64 0, .int .i64 0, .int .i64 0, .int .i64 0, .int .i64 0] 55)))
      clear HT
      go_wp2_with fail
      generalize World.alloc _ _ = W3 at *
      generalize w2.heap.size = ha at *
      refine (HR2.out W3).mono ?_
      rintro e w4 ⟨rfl, rfl⟩
      go_wp2_with fail
      go_loopw [37] (FailF w1 hp ha nm L) (fun v _ => 0)
      case atStart => exact ⟨rfl, HT3.out, HB3.out⟩
      case round =>
        obtain ⟨rfl, ht, hba⟩ := hrel
        have HNX := hide (next_f3 (u := true) ht 0 0 none 0 0)
        have HBA := hide hba
        have hne := other_ne ht hba (by decide)
        have hg1 : w1.heap.size ≤ ha := by have := HG2.out; omega
        clear ht hba
        have a0 := HBA.out.cell 0
        have a1 := HBA.out.cell 1
        have a2 := HBA.out.cell 2
        have a3 := HBA.out.cell 3
        have a4 := HBA.out.cell 4
        have a5 := HBA.out.cell 5
        have a6 := HBA.out.cell 6
        have a7 := HBA.out.cell 7
        have a8 := HBA.out.cell 8
        have a9 := HBA.out.cell 9
        have a10 := HBA.out.cell 10
        simp only [List.getElem?_toArray, List.getElem?_cons_zero, List.getElem?_cons_succ] at a0 a1 a2 a3 a4 a5 a6 a7 a8 a9 a10
        by_cases hlt : 0 < k
        · have hlt' : (0 : Int) < (k : Int) := by omega
          go_wp2_with fail
          refine HNX.out.mono ?_
          rintro e w5 ⟨he, ht5, hk5⟩
          obtain rfl := he
          have HT5 := hide ht5
          have HB5 := hide (hk5.blk HBA.out hne (.inr (by decide)))
          clear ht5 hk5 HBA a0 a1 a2 a3 a4 a5 a6 a7 a8 a9 a10
          go_upto_region 12 with fail
          generalize hW6 : World.alloc _ _ = W6
          have HX56 := hide (show Ext w5 W6 from by rw [← hW6]; ((repeat (first | with_reducible exact Ext.refl _ | with_reducible assumption | with_reducible refine Ext.alloc ?_ _ | with_reducible refine Ext.drew ?_ | with_reducible refine Ext.drewN ?_ _ | with_reducible refine Ext.setCell ?_ (by first | exact Nat.le_refl _ | assumption | (simp; done) | omega) _ | with_reducible refine Ext.trans ?_ (by with_reducible assumption))); done))
          have HBC := hide (show Blk W6 w5.heap.size 57 #[.int .i64 1, .int .i64 1, .int .i64 0, .int .i64 0, .string ⟨#[]⟩, .string ⟨#[]⟩, .slice none 0 0] from by rw [← hW6]; exact Blk.new _ _ _)
          have HB6 := hide (HB5.out.ext HX56.out)
          have HT6 := hide (HT5.out.more HX56.out)
          have hga : ha ≠ w5.heap.size := by have := HB5.out.lt; omega
          clear hW6 HX56 HT5 HB5
          generalize w5.heap.size = gc at *
          have f0 := HB6.out.frozen 0
          have f1 := HB6.out.frozen 1
          have f2 := HB6.out.frozen 2
          have f3 := HB6.out.frozen 3
          have f4 := HB6.out.frozen 4
          have f5 := HB6.out.frozen 5
          have f6 := HB6.out.frozen 6
          have f7 := HB6.out.frozen 7
          have f8 := HB6.out.frozen 8
          have f9 := HB6.out.frozen 9
          have f10 := HB6.out.frozen 10
          have k0 := HB6.out.cell 0
          have k1 := HB6.out.cell 1
          have k2 := HB6.out.cell 2
          have k3 := HB6.out.cell 3
          have k4 := HB6.out.cell 4
          have k5 := HB6.out.cell 5
          have k6 := HB6.out.cell 6
          have k7 := HB6.out.cell 7
          have k8 := HB6.out.cell 8
          have k9 := HB6.out.cell 9
          have k10 := HB6.out.cell 10
          simp only [List.getElem?_toArray, List.getElem?_cons_zero, List.getElem?_cons_succ] at k0 k1 k2 k3 k4 k5 k6 k7 k8 k9 k10
          go_upto_region 13 with fail
          generalize hW7 : World.setCell _ _ _ = W7 at *
          have HK7 := hide (show KeepX ha true W6 W7 from by rw [← hW7]; exact KeepX.set11 ha W6 _ _ _ _ _ _ _ _ _ _ _)
          have HC7 := hide (HK7.out.blk HBC.out (Ne.symm hga) (.inl rfl))
          have HT7 := hide (HT6.out.far HK7.out HB6.out ans_nob (by decide) hg1)
          clear hW7 HK7 HB6 HBC HT6 f0 f1 f2 f3 f4 f5 f6 f7 f8 f9 f10 k0 k1 k2 k3 k4 k5 k6 k7 k8 k9 k10
          have n0 := HC7.out.cell 0
          have n1 := HC7.out.cell 1
          simp only [List.getElem?_toArray, List.getElem?_cons_zero, List.getElem?_cons_succ] at n0 n1
          go_wp2_with fail
          go_ret
          exact ⟨rfl, HX1.out.trans HT7.out.ext⟩
        · obtain rfl : k = 0 := by omega
          go_wp2_with fail
          refine HNX.out.mono ?_
          rintro e w5 ⟨he, ht5, hk5⟩
          obtain rfl := he
          have HT5 := hide ht5
          have HB5 := hide (hk5.blk HBA.out hne (.inr (by decide)))
          clear ht5 hk5 HBA a0 a1 a2 a3 a4 a5 a6 a7 a8 a9 a10
          go_upto_region 21 with fail
          generalize hW6 : World.alloc _ _ = W6
          have HX56 := hide (show Ext w5 W6 from by rw [← hW6]; ((repeat (first | with_reducible exact Ext.refl _ | with_reducible assumption | with_reducible refine Ext.alloc ?_ _ | with_reducible refine Ext.drew ?_ | with_reducible refine Ext.drewN ?_ _ | with_reducible refine Ext.setCell ?_ (by first | exact Nat.le_refl _ | assumption | (simp; done) | omega) _ | with_reducible refine Ext.trans ?_ (by with_reducible assumption))); done))
          have HBC := hide (show Blk W6 w5.heap.size 57 #[.int .i64 1, .int .i64 1, .int .i64 0, .int .i64 0, .string ⟨#[]⟩, .string ⟨#[]⟩, .slice none 0 0] from by rw [← hW6]; exact Blk.new _ _ _)
          have HB6 := hide (HB5.out.ext HX56.out)
          have HT6 := hide (HT5.out.more HX56.out)
          have hga : ha ≠ w5.heap.size := by have := HB5.out.lt; omega
          clear hW6 HX56 HT5 HB5
          generalize w5.heap.size = gc at *
          have n0 := HBC.out.cell 0
          simp only [List.getElem?_toArray, List.getElem?_cons_zero] at n0
          go_wp2_with fail
          go_ret
          exact ⟨rfl, HX1.out.trans HT6.out.ext⟩
end Go.Proofs.YtjmonkacijncbaaGreatDoor

namespace Go.Proofs.YtjmonkacijncbaaGreatDoor
open Go.RowKit
set_option linter.unusedVariables false

structure DrvOk (nm : Bs) (L : List Bs) (f : Bs → Bs) (s : Bs → Int) : Prop where
  mean : MeanAt nm L f s
  check : CheckAt nm L
  small : ∀ b, b.length ≤ 600 → (f b).length ≤ 8000
  kind : (((str nm).toList == [101, 99, 104, 111]) = false ∧ ((str nm).toList == [102, 97, 108, 115, 101]) = false) ∨
    ((((str nm).toList == [101, 99, 104, 111]) = true ∨ ((str nm).toList == [101, 99, 104, 111]) = false ∧ ((str nm).toList == [102, 97, 108, 115, 101]) = true) ∧ (∀ b, f b = f []) ∧ ∀ b, s b = s [])
theorem text_snoc (l : List Bs) (x : Bs) : (textP (l ++ [x])).length = (textP l).length + (x.length + 1) := by
  rw [text_app, List.length_append, text_cons]
  simp [textP]
theorem turn_len2 (f : Nat → Bs → Bs) (L : List Bs) (hf : ∀ i s, i < 1000 → (f i s).length ≤ s.length + 7) : ∀ k, k ≤ L.length → k ≤ 1000 → (textP (turnP f L k)).length ≤ (textP (L.take k)).length + 7 * k := by
  intro k
  induction k with
  | zero => intro _ _; simp [turnP, textP]
  | succ k ih =>
    intro h1 h2
    have h := ih (by omega) (by omega)
    rw [turn_succ, text_snoc, List.take_succ_eq_append_getElem (by omega), text_snoc, List.getElem?_eq_getElem (by omega), Option.getD_some]
    have := hf k L[k] (by omega)
    omega
theorem turn_small (f : Nat → Bs → Bs) (hf : ∀ i s, i < 1000 → (f i s).length ≤ s.length + 7) (b : Bs) (hb : b.length ≤ 600) : (textP (turnP f (linesP b) (linesP b).length)).length ≤ 8000 := by
  have h1 := (lines_small b).1
  have h2 := turn_len2 f (linesP b) hf (linesP b).length (Nat.le_refl _) (by omega)
  rw [List.take_length] at h2
  have h3 := lines_text_len b
  omega
theorem sub_small {f : List Bs → List Bs} (hf : ∀ l, (f l).Sublist l) (b : Bs) (hb : b.length ≤ 600) : (textP (f (linesP b))).length ≤ 8000 := by
  have h1 := text_sub (hf (linesP b))
  have h3 := lines_text_len b
  omega
theorem replB_small (x y : UInt8) (b : Bs) : (replB x y b).length = b.length := by
  unfold replB
  simp
theorem drv_of {nm : Bs} {L : List Bs} (h : RunArgs nm L) : ∃ f s, DrvOk nm L f s := by
  cases h with
  | cat_ => exact ⟨_, _, mean_cat, check_cat, fun b h => by omega, .inl ⟨by kernel_rfl, by kernel_rfl⟩⟩
  | cut_ a b h1 h2 h3 => exact ⟨_, _, mean_cut_ a b h1 h2 (by omega), check_cut a b h1 h2 (by omega), fun b0 h => turn_small _ (fun i s _ => by unfold cutF; rw [List.length_take, List.length_drop]; omega) b0 h, .inl ⟨by kernel_rfl, by kernel_rfl⟩⟩
  | echo_ t h => exact ⟨_, _, mean_echo [[97], t] (by simp) (by simp [Lib.join]; omega), check_echo [[97], t] (by simp), fun b hb => by simp [Lib.join]; omega, .inr ⟨.inl (by kernel_rfl), fun _ => rfl, fun _ => rfl⟩⟩
  | false_ => exact ⟨_, _, mean_false, check_false_, fun b h => by simp, .inr ⟨.inr ⟨by kernel_rfl, by kernel_rfl⟩, fun _ => rfl, fun _ => rfl⟩⟩
  | grep_ g h h2 => exact ⟨_, _, mean_grep g h, check_grep g h, sub_small (f := fun l => l.filter fun s => Lib.contains s g) fun l => List.filter_sublist, .inl ⟨by kernel_rfl, by kernel_rfl⟩⟩
  | head_ k h => exact ⟨_, _, mean_head k (by omega), check_head k (by omega), sub_small (f := fun l => l.take k) fun l => List.take_sublist _ _, .inl ⟨by kernel_rfl, by kernel_rfl⟩⟩
  | nl_ => exact ⟨_, _, mean_nl_, check_nl, turn_small _ fun i s hi => by unfold nlF; rw [List.length_append, List.length_append]; have := itoa_len6 i (by omega); simp only [List.length_cons, List.length_nil]; omega, .inl ⟨by kernel_rfl, by kernel_rfl⟩⟩
  | sort_ => exact ⟨_, _, mean_sort, check_sort, fun b h => by rw [sort_text_len]; have := lines_text_len b; omega, .inl ⟨by kernel_rfl, by kernel_rfl⟩⟩
  | tac_ => exact ⟨_, _, mean_tac, check_tac, fun b h => by rw [tac_text_len]; have := lines_text_len b; omega, .inl ⟨by kernel_rfl, by kernel_rfl⟩⟩
  | tail_ k h => exact ⟨_, _, mean_tail k (by omega), check_tail k (by omega), sub_small (f := tailL k) fun l => List.drop_sublist _ _, .inl ⟨by kernel_rfl, by kernel_rfl⟩⟩
  | tr_ x y => exact ⟨_, _, mean_tr x y, check_tr x y, fun b h => by rw [replB_small]; omega, .inl ⟨by kernel_rfl, by kernel_rfl⟩⟩
  | uniq_ => exact ⟨_, _, mean_uniq, check_uniq, sub_small (f := Lib.compact) fun l => compact_sub l, .inl ⟨by kernel_rfl, by kernel_rfl⟩⟩
  | wc_ => exact ⟨_, _, mean_wc, check_wc, fun b h => by
      have h1 := itoa_len6n (b.count 10) (by have : b.count 10 ≤ b.length := List.count_le_length; omega)
      have h2 := itoa_len6n (ffAll b).length (by have := ff_few b; omega)
      have h3 := itoa_len6n b.length (by omega)
      unfold wcP
      simp only [List.length_append, List.length_cons, List.length_nil]
      omega, .inl ⟨by kernel_rfl, by kernel_rfl⟩⟩
end Go.Proofs.YtjmonkacijncbaaGreatDoor

namespace Go.Proofs.YtjmonkacijncbaaGreatDoor
open Go.RowKit
set_option linter.unusedVariables false

set_option maxHeartbeats 8000000 in
set_option maxRecDepth 100000 in
theorem got_end2 {w0 w : World} {hp : Nat} {nm : Bs} {L : List Bs} {q : Bool} {st : Int} {inp out : Bs} {A : Option Addr} {n c : Nat} {Ai : Option Addr} {mi ci : Nat} {Ao : Option Addr} {mo co : Nat} (h : ToolM w0 w hp nm L 1 q st inp out A n c Ai mi ci Ao mo co) (hmo : mo = 0) (Ad : Option Addr) (cd : Nat) {f : Bs → Bs} {s : Bs → Int} (hm : MeanAt nm L f s) (hL : LibOk w0) (hlen : inp.length ≤ 1024) :
    Calls Tryz.prog 48 #[.pointer (some ⟨hp, 0, none⟩), .agg #[.int .i64 0, .int .i64 0, .int .i64 0, .slice Ad 0 cd, .slice none 0 0, .int .i64 0, .int .i64 0, .int .i64 0, .int .i64 0, .int .i64 0, .int .i64 0]] w fun e w' => e = .returned (.tuple #[]) ∧ (∃ Ao' mo' co' Ai' ci', ToolM w0 w' hp nm L (doingOf (f inp)) q (s inp) inp (f inp) A n c Ai' mi ci' Ao' mo' co') ∧ KeepX hp false w w' := by
  have hlt := h.box.lt
  have HB := hide (Blk.new w 55 #[.int .i64 0, .int .i64 0, .int .i64 0, .slice Ad 0 cd, .slice none 0 0, .int .i64 0, .int .i64 0, .int .i64 0, .int .i64 0, .int .i64 0, .int .i64 0])
  have HX := hide ((Ext.refl w).alloc (.cells #[.int .i64 0, .int .i64 0, .int .i64 0, .slice Ad 0 cd, .slice none 0 0, .int .i64 0, .int .i64 0, .int .i64 0, .int .i64 0, .int .i64 0, .int .i64 0] 55))
  have HT := hide (h.more HX.out)
  have hne : w.heap.size ≠ hp := by omega
  have hw0 := h.ext.size
  clear h
  go_enter Tryz.func48, Tryz.ntmps48
  go_upto_region 1 with fail
  obtain ⟨W, hW⟩ : ∃ W, W = w.alloc (.cells #[.int .i64 0, .int .i64 0, .int .i64 0, .slice Ad 0 cd, .slice none 0 0, .int .i64 0, .int .i64 0, .int .i64 0, .int .i64 0, .int .i64 0, .int .i64 0] 55) := ⟨_, rfl⟩
  obtain ⟨hb, hhb⟩ : ∃ hb, hb = w.heap.size := ⟨_, rfl⟩
  rw [← hW] at HB HX HT ⊢
  rw [← hhb] at HB hne ⊢
  have HW0 := hide (show w0.heap.size ≤ W.heap.size from Nat.le_trans hw0 HX.out.size)
  clear hW hhb hlt hw0
  have a0 : W.cell? ⟨hb, 0, none⟩ = some (.int .i64 0) := HB.out.cell 0
  have a1 : W.cell? ⟨hb, 1, none⟩ = some (.int .i64 0) := HB.out.cell 1
  have a3 : W.cell? ⟨hb, 3, none⟩ = some (.slice Ad 0 cd) := HB.out.cell 3
  have c2 : W.cell? ⟨hp, 2, none⟩ = some (.int .i64 1) := HT.out.box.cell 2
  have c4 : W.cell? ⟨hp, 4, none⟩ = some (.slice Ai mi ci) := HT.out.box.cell 4
  have c5 : W.cell? ⟨hp, 5, none⟩ = some (.slice Ao mo co) := HT.out.box.cell 5
  have c6 : W.cell? ⟨hp, 6, none⟩ = some (.int .i64 st) := HT.out.box.cell 6
  have f2 := HT.out.box.frozen 2
  have f4 := HT.out.box.frozen 4
  have f5 := HT.out.box.frozen 5
  have f6 := HT.out.box.frozen 6
  have HMI := hide (bytes_len (Reads.of_own HT.out.inn))
  obtain ⟨i0, hi0, hz0, hz1, hz2⟩ := info_parts byte_info
  have HRR := hide (show Reads W.drew W.heap.size 1 Ad 0 (bytesV []) from ⟨rfl, fun h => absurd h (by omega)⟩)
  have HRK := hide (fun W mi Ai' ci' (inp' : Bs) (hi : inp' = inp) (h : ToolM w0 W hp nm L 1 q st inp' out A n c Ai' mi ci' Ao mo co) => reckon_any hm hL h (by rw [hi]; exact hlen))
  have HLEN := hide hlen
  clear hm hL hlen
  have HON := hide ((own_blk_ne HT.out.inn HB.out (by decide)).symm)
  have HOP := hide ((own_blk_ne HT.out.inn HT.out.box (by decide)).symm)
  have hle : mi + 0 ≤ 1024 := by have h1 := HMI.out; have h2 := HLEN.out; omega
  have HOI := hide (show W.drew.ownsRow w0.heap.size 5 1 (.slice Ai mi ci) mi (bytesV inp) from ((Ext.refl W).drew).own HT.out.inn)
  have HBD := hide ((HB.out.ext ((Ext.refl W).drew)))
  have HPD := hide ((HT.out.box.ext ((Ext.refl W).drew)))
  go_upto_region 10 with fail
  go_region_law (
    (refine step_append_any _ (by rfl) (.tmp 62) (.tmp 64) 22 (by rfl) w0.heap.size 5 i0 _ 1 1 Tryz.underlying22 hi0 hz0 hz1 hz2 rfl (by omega) (.slice Ai mi ci) mi (bytesV inp) (by rfl) HOI.out _ Ad 0 cd (bytesV ([] : Bs)) (by rfl) HRR.out (bytesV_one _) (by simp only [maxLen]; omega) (by omega) HW0.out ?_; intro A7 c7 w7 ho7 hg7 ha7; have hb7 := HBD.out.grown hg7 HON.out; have hb8 := HPD.out.grown hg7 HOP.out; have k7 : w7.cell? ⟨hb, 3, none⟩ = some (.slice Ad 0 cd) := hb7.cell 3; have k8 : w7.cell? ⟨hp, 4, none⟩ = some (.slice Ai mi ci) := hb8.cell 4; have k9 : w7.frozen? ⟨hp, 4, none⟩ = false := hb8.frozen 4))
  all_goals
    obtain ⟨h8, hk8⟩ := (HT.out.more ((Ext.refl W).drew)).fed hmo ho7 hg7
    have H8 := hide h8
    have HK8 := hide ((KeepX.of (HX.out.trans ((Ext.refl W).drew)) hp false).trans hk8)
    have e3 : (w7.setCell ⟨hp, 4, none⟩ (.slice A7 (mi + 0) c7)).cell? ⟨hb, 3, none⟩ = some (.slice Ad 0 cd) := far1 k7 (Ne.symm hne) _
    clear h8 hk8 ho7 hg7 ha7 hb7 hb8 k7 k8 k9 a0 a1 a3 c2 c4 c5 c6 f2 f4 f5 f6 HT HB HX HON HOP HOI HBD HPD HRR hne
    (try simp only [Nat.add_zero] at H8 HK8 e3)
    generalize w7.setCell _ _ = W8 at *
    have e4 : W8.cell? ⟨hp, 4, none⟩ = some (.slice A7 mi c7) := H8.out.box.cell 4
    go_wp2_with fail
    refine (HRK.out W8 mi A7 c7 _ (by simp) H8.out).mono ?_
    rintro e w9 ⟨rfl, ⟨Ao9, mo9, co9, h9⟩, hk9⟩
    have H9 := hide h9
    have HK9 := hide (HK8.out.trans hk9.weak)
    clear h9 hk9
    go_wp2_with fail
    (first | go_end0 | ((try simp only [Exit.inBlock, Exit.then]); refine bodyPost_ret (results_none rfl _ _ _) rfl ?_))
    exact ⟨rfl, ⟨Ao9, mo9, co9, A7, c7, by simpa using H9.out⟩, HK9.out⟩
end Go.Proofs.YtjmonkacijncbaaGreatDoor

namespace Go.Proofs.YtjmonkacijncbaaGreatDoor
open Go.RowKit
set_option linter.unusedVariables false

/-- 's[k:]': the address under a name, and its block. -/
theorem cut_from2 {P : Program} {w : World} {t e : TypeId} {i : TypeInfo} (ht : P.underlying t = some (.slice e)) (hi : P.info? e = some i) (hs : i.size = 1) {B n : Nat} {A : Option Addr} {xs : List Value} (h : Reads w B 1 A n xs) (k c : Nat) (hk : k ≤ n) (hc : n ≤ c) (kl : IntKind) :
    ∃ A', (∀ W, (Instr.slice t (.slice A n c) (some (.int kl (k : Int))) none none).run P W = .ok (.slice A' (n - k) (c - k)) W) ∧ Reads w B 1 A' (n - k) (xs.drop k) ∧ (∀ a', A' = some a' → ∃ a, A = some a ∧ a'.block = a.block) := by
  have he : P.elem t = e := by simp [Program.elem, ht]
  have ht' : P.underlying t = some (.slice (P.elem t)) := by rw [he]; exact ht
  refine ⟨if c = k then A else A.map (·.add (k * 1)), fun W => ?_, ?_, ?_⟩
  · rw [run_slice_l W t A n c ht' kl (k : Int) (by omega) (by omega), he]
    simp [sizeOf, typeInfo, hi, hs, sliced, Result.andThen]
  · have := h.cut hk hc
    simpa using this
  · intro a' h0
    cases A with
    | none => split at h0 <;> simp at h0
    | some a =>
      refine ⟨a, rfl, ?_⟩
      split at h0
      · cases h0; rfl
      · simp only [Option.map_some, Option.some.injEq] at h0
        rw [← h0, add_block]
set_option maxHeartbeats 8000000 in
set_option maxRecDepth 100000 in
theorem got_write2 {w0 w : World} {hp : Nat} {nm : Bs} {L : List Bs} {q : Bool} {st : Int} {inp out : Bs} {A : Option Addr} {n c : Nat} {Ai : Option Addr} {mi ci : Nat} {Ao : Option Addr} {mo co : Nat} (h : ToolM w0 w hp nm L 2 q st inp out A n c Ai mi ci Ao mo co) (k r : Nat) (hr : min k mo = r) :
    Calls Tryz.prog 48 #[.pointer (some ⟨hp, 0, none⟩), .agg #[.int .i64 0, .int .i64 (k : Int), .int .i64 0, .slice none 0 0, .slice none 0 0, .int .i64 0, .int .i64 0, .int .i64 0, .int .i64 0, .int .i64 0, .int .i64 0]] w fun e w' => e = .returned (.tuple #[]) ∧ (∃ Ao' mo' co', ToolM w0 w' hp nm L (doingOf (out.drop r)) q st inp (out.drop r) A n c Ai mi ci Ao' mo' co' ∧ mo' ≤ mo ∧ ∀ a', Ao' = some a' → ∃ a, Ao = some a ∧ a'.block = a.block) ∧ KeepX hp true w w' := by
  have hlt := h.box.lt
  have HB := hide (Blk.new w 55 #[.int .i64 0, .int .i64 (k : Int), .int .i64 0, .slice none 0 0, .slice none 0 0, .int .i64 0, .int .i64 0, .int .i64 0, .int .i64 0, .int .i64 0, .int .i64 0])
  have HX := hide ((Ext.refl w).alloc (.cells #[.int .i64 0, .int .i64 (k : Int), .int .i64 0, .slice none 0 0, .slice none 0 0, .int .i64 0, .int .i64 0, .int .i64 0, .int .i64 0, .int .i64 0, .int .i64 0] 55))
  have HT := hide (h.more HX.out)
  have hne : w.heap.size ≠ hp := by omega
  have hw0 := h.ext.size
  clear h
  go_enter Tryz.func48, Tryz.ntmps48
  go_upto_region 1 with fail
  obtain ⟨W, hW⟩ : ∃ W, W = w.alloc (.cells #[.int .i64 0, .int .i64 (k : Int), .int .i64 0, .slice none 0 0, .slice none 0 0, .int .i64 0, .int .i64 0, .int .i64 0, .int .i64 0, .int .i64 0, .int .i64 0] 55) := ⟨_, rfl⟩
  obtain ⟨hb, hhb⟩ : ∃ hb, hb = w.heap.size := ⟨_, rfl⟩
  rw [← hW] at HB HX HT ⊢
  rw [← hhb] at HB hne ⊢
  have HW0 := hide (show w0.heap.size ≤ W.heap.size from Nat.le_trans hw0 HX.out.size)
  clear hW hhb hlt hw0
  have a0 : W.cell? ⟨hb, 0, none⟩ = some (.int .i64 0) := HB.out.cell 0
  have a1 : W.cell? ⟨hb, 1, none⟩ = some (.int .i64 (k : Int)) := HB.out.cell 1
  have a3 : W.cell? ⟨hb, 3, none⟩ = some (.slice none 0 0) := HB.out.cell 3
  have c2 : W.cell? ⟨hp, 2, none⟩ = some (.int .i64 2) := HT.out.box.cell 2
  have c4 : W.cell? ⟨hp, 4, none⟩ = some (.slice Ai mi ci) := HT.out.box.cell 4
  have c5 : W.cell? ⟨hp, 5, none⟩ = some (.slice Ao mo co) := HT.out.box.cell 5
  have c6 : W.cell? ⟨hp, 6, none⟩ = some (.int .i64 st) := HT.out.box.cell 6
  have f2 := HT.out.box.frozen 2
  have f4 := HT.out.box.frozen 4
  have f5 := HT.out.box.frozen 5
  have f6 := HT.out.box.frozen 6
  have HOL := hide (bytes_len HT.out.outr)
  have hrm : r ≤ mo := by omega
  have m1 : max (k : Int) (0 : Int) = (k : Int) := by omega
  have m2 : min (k : Int) (mo : Int) = (r : Int) := by omega
  clear hr
  obtain ⟨i0, hi0, hz0, hz1, hz2⟩ := info_parts byte_info
  have hoc := HT.out.oc
  obtain ⟨A', hs2, hr2, hn2⟩ := cut_from2 (P := Tryz.prog) Tryz.underlying22 hi0 hz1 HT.out.outr r co hrm hoc.1 .i64
  rw [bytesV_drop] at hr2
  have HR2 := hide hr2
  have HN2 := hide hn2
  have HOC := hide hoc
  clear hr2 hn2 hoc hi0 hz0 hz1 hz2
  go_upto_region 5 with fail
  go_region_held3 (fun w' => w'.cell? ⟨hb, 1, none⟩ = some (.int .i64 (k : Int)) ∧ w'.cell? ⟨hp, 5, none⟩ = some (.slice Ao mo co)) (first | exact ⟨a1, c5⟩ | fail) (fail)
  all_goals
    have HFL := hide (show (out.drop r).length = mo - r by rw [List.length_drop, HOL.out])
    have HRD := hide (show Reads W.drew W.drew.heap.size 1 A' (mo - r) (bytesV (out.drop r)) from HR2.out.drew)
    have HT2 := hide (HT.out.more ((Ext.refl W).drew))
    clear HR2
    have HKX := hide ((KeepX.of HX.out hp true).trans (KeepX.of ((Ext.refl W).drew) hp true))
    generalize W.drew = W2 at *
    clear a0 a1 a3
    have c2 : W2.cell? ⟨hp, 2, none⟩ = some (.int .i64 2) := HT2.out.box.cell 2
    have c5 : W2.cell? ⟨hp, 5, none⟩ = some (.slice Ao mo co) := HT2.out.box.cell 5
    have f2 := HT2.out.box.frozen 2
    have f5 := HT2.out.box.frozen 5
    by_cases h0 : mo - r = 0
    · have HF := hide (show doingOf (out.drop r) = 3 from if_pos (by rw [HFL.out]; exact h0))
      have HOR := hide (show Reads W2 W2.heap.size 1 A' 0 (bytesV (out.drop r)) from by have := HRD.out; rw [h0] at this; exact ⟨this.1, fun h => absurd h (by omega)⟩)
      rw [h0] at hs2
      clear HFL h0
      go_wp2_with fail
      (first | go_end0 | ((try simp only [Exit.inBlock, Exit.then]); refine bodyPost_ret (results_none rfl _ _ _) rfl ?_))
      refine ⟨rfl, ⟨A', 0, co - r, ?_, Nat.zero_le _, HN2.out⟩, HKX.out.trans ((KeepX.set hp true W2 5 _).trans (KeepX.set hp true _ 2 _))⟩
      rw [HF.out]
      exact HT2.out.told ((KeepX.set hp true W2 5 _).trans (KeepX.set hp true _ 2 _)) ((HT2.out.box.set_ 5 _).set_ 2 _) HOR.out ⟨Nat.zero_le _, by have := HOC.out; omega⟩
    · have HF := hide (show doingOf (out.drop r) = 2 from if_neg (by rw [HFL.out]; exact h0))
      obtain ⟨p, hp'⟩ : ∃ p, mo - r = p := ⟨_, rfl⟩
      rw [hp'] at h0 hs2 HRD
      have t1 : ((p : Int) == 0) = false := beq_eq_false_iff_ne.2 (by omega)
      clear HFL
      go_wp2_with fail
      (first | go_end0 | ((try simp only [Exit.inBlock, Exit.then]); refine bodyPost_ret (results_none rfl _ _ _) rfl ?_))
      refine ⟨rfl, ⟨A', p, co - r, ?_, by omega, HN2.out⟩, HKX.out.trans (KeepX.set hp true W2 5 _)⟩
      rw [HF.out]
      exact HT2.out.told (KeepX.set hp true W2 5 _) (HT2.out.box.set_ 5 _) HRD.out ⟨by have := HOC.out; omega, by have := HOC.out; omega⟩
end Go.Proofs.YtjmonkacijncbaaGreatDoor

namespace Go.Proofs.YtjmonkacijncbaaGreatDoor
open Go.RowKit
set_option linter.unusedVariables false

/-- A program in memory; Φ: where what it was given (Ai) and what it is to write (Ao, mo) lie. -/
def TAtG (Φ : Option Addr → Option Addr → Nat → Prop) (w0 w : World) (hp : Nat) (nm : Bs) (L : List Bs) (d : Int) (q : Bool) (st : Int) (inp out : Bs) : Prop := ∃ A n c Ai mi ci Ao mo co, ToolM w0 w hp nm L d q st inp out A n c Ai mi ci Ao mo co ∧ Φ Ai Ao mo
theorem TAtG.plain {Φ : Option Addr → Option Addr → Nat → Prop} {w0 w : World} {hp : Nat} {nm : Bs} {L : List Bs} {d : Int} {q : Bool} {st : Int} {inp out : Bs} (h : TAtG Φ w0 w hp nm L d q st inp out) : TAt w0 w hp nm L d q st inp out := by
  obtain ⟨A, n, c, Ai, mi, ci, Ao, mo, co, h, hf⟩ := h
  exact ⟨A, n, c, Ai, mi, ci, Ao, mo, co, h⟩
theorem TAt.withG {Φ : Option Addr → Option Addr → Nat → Prop} {w0 w : World} {hp : Nat} {nm : Bs} {L : List Bs} {d : Int} {q : Bool} {st : Int} {inp out : Bs} (h : TAt w0 w hp nm L d q st inp out) (hf : ∀ a b c, Φ a b c) : TAtG Φ w0 w hp nm L d q st inp out := by
  obtain ⟨A, n, c, Ai, mi, ci, Ao, mo, co, h⟩ := h
  exact ⟨A, n, c, Ai, mi, ci, Ao, mo, co, h, hf _ _ _⟩
theorem TAtG.more {Φ : Option Addr → Option Addr → Nat → Prop} {w0 w w' : World} {hp : Nat} {nm : Bs} {L : List Bs} {d : Int} {q : Bool} {st : Int} {inp out : Bs} (h : TAtG Φ w0 w hp nm L d q st inp out) (hx : Ext w w') : TAtG Φ w0 w' hp nm L d q st inp out := by
  obtain ⟨A, n, c, Ai, mi, ci, Ao, mo, co, h, hf⟩ := h
  exact ⟨A, n, c, Ai, mi, ci, Ao, mo, co, h.more hx, hf⟩
theorem TAtG.lt {Φ : Option Addr → Option Addr → Nat → Prop} {w0 w : World} {hp : Nat} {nm : Bs} {L : List Bs} {d : Int} {q : Bool} {st : Int} {inp out : Bs} (h : TAtG Φ w0 w hp nm L d q st inp out) : hp < w.heap.size := h.plain.lt
theorem ToolM.otherG {Φ : Option Addr → Option Addr → Nat → Prop} {w0 w w' : World} {hp g : Nat} {nm : Bs} {L : List Bs} {d : Int} {q : Bool} {st : Int} {inp out : Bs} {A : Option Addr} {n c : Nat} {Ai : Option Addr} {mi ci : Nat} {Ao : Option Addr} {mo co : Nat} {cs : Array Value}
    (h : ToolM w0 w hp nm L d q st inp out A n c Ai mi ci Ao mo co) (hf : Φ Ai Ao mo) (hk : KeepX g true w w') (hb : Blk w g 57 cs) (hc : ∀ (i : Nat) (x : Int), cs[i]? ≠ some (.int .u8 x)) (hg : w0.heap.size ≤ g) (hne : hp ≠ g) : TAtG Φ w0 w' hp nm L d q st inp out :=
  ⟨A, n, c, Ai, mi, ci, Ao, mo, co, ⟨hk.blk h.box hne (.inl rfl), h.ge, hk.ext (u := true) h.ext hg, hk.own h.args (own_blk_ne h.args hb (by decide)) (.inl rfl), hk.own h.inn (own_blk_ne h.inn hb (by decide)) (.inl rfl), hk.bytes h.outr hb hc, h.oc⟩, hf⟩
set_option maxHeartbeats 8000000 in
set_option maxRecDepth 100000 in
theorem next_t2g {Φ : Option Addr → Option Addr → Nat → Prop} {w0 w : World} {hp : Nat} {nm : Bs} {L : List Bs} {d : Int} {st st' : Int} {inp inp' out out' : Bs} {u : Bool} (h : TAtG Φ w0 w hp nm L d true st inp out) (er a : Int) (Ad : Option Addr) (nd cd : Nat)
    (G : ∀ W, Ext w W → TAtG Φ w0 W hp nm L d true st inp out → Calls Tryz.prog 48 #[.pointer (some ⟨hp, 0, none⟩), .agg #[.int .i64 er, .int .i64 a, .int .i64 0, .slice Ad nd cd, .slice none 0 0, .int .i64 0, .int .i64 0, .int .i64 0, .int .i64 0, .int .i64 0, .int .i64 0]] W fun e w' => e = .returned (.tuple #[]) ∧ TAtG Φ w0 w' hp nm L 2 true st' inp' out' ∧ KeepX hp u W w') :
    Calls Tryz.prog 23 #[.pointer (some ⟨hp, 0, none⟩), .agg #[.int .i64 er, .int .i64 a, .int .i64 0, .slice Ad nd cd, .slice none 0 0, .int .i64 0, .int .i64 0, .int .i64 0, .int .i64 0, .int .i64 0, .int .i64 0]] w fun e w' => CallWrite out' e w' ∧ TAtG Φ w0 w' hp nm L 2 true st' inp' out' ∧ KeepX hp u w w' := by
  have hlt := h.lt
  have HBA := hide ((Blk.new w 55 #[.int .i64 er, .int .i64 a, .int .i64 0, .slice Ad nd cd, .slice none 0 0, .int .i64 0, .int .i64 0, .int .i64 0, .int .i64 0, .int .i64 0, .int .i64 0]).alloc (.cells #[.int .i64 0, .int .i64 0, .int .i64 0, .int .i64 0, .string ⟨#[]⟩, .string ⟨#[]⟩, .slice none 0 0] 57))
  have HBC := hide (Blk.new (w.alloc (.cells #[.int .i64 er, .int .i64 a, .int .i64 0, .slice Ad nd cd, .slice none 0 0, .int .i64 0, .int .i64 0, .int .i64 0, .int .i64 0, .int .i64 0, .int .i64 0] 55)) 57 #[.int .i64 0, .int .i64 0, .int .i64 0, .int .i64 0, .string ⟨#[]⟩, .string ⟨#[]⟩, .slice none 0 0])
  have HX := hide (((Ext.refl w).alloc (.cells #[.int .i64 er, .int .i64 a, .int .i64 0, .slice Ad nd cd, .slice none 0 0, .int .i64 0, .int .i64 0, .int .i64 0, .int .i64 0, .int .i64 0, .int .i64 0] 55)).alloc (.cells #[.int .i64 0, .int .i64 0, .int .i64 0, .int .i64 0, .string ⟨#[]⟩, .string ⟨#[]⟩, .slice none 0 0] 57))
  have hz : (w.alloc (.cells #[.int .i64 er, .int .i64 a, .int .i64 0, .slice Ad nd cd, .slice none 0 0, .int .i64 0, .int .i64 0, .int .i64 0, .int .i64 0, .int .i64 0, .int .i64 0] 55)).heap.size = w.heap.size + 1 := by simp
  rw [hz] at HBC
  have HT := hide (h.more HX.out)
  have hne : w.heap.size + 1 ≠ hp := by omega
  have hge : w.heap.size ≤ w.heap.size + 1 := by omega
  have hg0 : w0.heap.size ≤ w.heap.size + 1 := by
    obtain ⟨_, _, _, _, _, _, _, _, _, h, _⟩ := h
    have := h.ext.size
    omega
  clear h hz
  have HG := hide G
  clear G
  go_enter Tryz.func23, Tryz.ntmps23
  go_upto_region 1 with fail
  obtain ⟨W, hW⟩ : ∃ W, W = (w.alloc (.cells #[.int .i64 er, .int .i64 a, .int .i64 0, .slice Ad nd cd, .slice none 0 0, .int .i64 0, .int .i64 0, .int .i64 0, .int .i64 0, .int .i64 0, .int .i64 0] 55)).alloc (.cells #[.int .i64 0, .int .i64 0, .int .i64 0, .int .i64 0, .string ⟨#[]⟩, .string ⟨#[]⟩, .slice none 0 0] 57) := ⟨_, rfl⟩
  obtain ⟨hb, hhb⟩ : ∃ hb, hb = w.heap.size := ⟨_, rfl⟩
  rw [← hW] at HBA HBC HX HT ⊢
  have hg1 : w.heap.size ≤ hb + 1 := by omega
  rw [← hhb] at HBA HBC hne hg0 ⊢
  clear hW hge hhb hlt
  have HG1 := hide (HG.out W HX.out HT.out)
  obtain ⟨A, n, c, Ai, mi, ci, Ao, mo, co, ht, _⟩ := HT.out
  have c3 : W.cell? ⟨hp, 3, none⟩ = some (.bool true) := ht.box.cell 3
  have a0 := HBA.out.cell 0
  have a1 := HBA.out.cell 1
  have a2 := HBA.out.cell 2
  have a3 := HBA.out.cell 3
  have a4 := HBA.out.cell 4
  have a5 := HBA.out.cell 5
  have a6 := HBA.out.cell 6
  have a7 := HBA.out.cell 7
  have a8 := HBA.out.cell 8
  have a9 := HBA.out.cell 9
  have a10 := HBA.out.cell 10
  simp only [List.getElem?_toArray, List.getElem?_cons_zero, List.getElem?_cons_succ] at a0 a1 a2 a3 a4 a5 a6 a7 a8 a9 a10
  clear ht HT HG
  go_wp2_with fail
  refine HG1.out.mono ?_
  rintro e w1 ⟨rfl, h1, hk1⟩
  have HK1 := hide ((KeepX.of HX.out hp u).trans hk1)
  have HBC1 := hide (hk1.blk HBC.out hne (.inr (by decide)))
  obtain ⟨A1, n1, c1, Ai1, mi1, ci1, Ao1, mo1, co1, h1, hf1⟩ := h1
  have HF1 := hide hf1
  clear hf1
  have H1 := hide h1
  clear h1 hk1 c3 a0 a1 a2 a3 a4 a5 a6 a7 a8 a9 a10
  have c2 : w1.cell? ⟨hp, 2, none⟩ = some (.int .i64 2) := H1.out.box.cell 2
  have c3 : w1.cell? ⟨hp, 3, none⟩ = some (.bool true) := H1.out.box.cell 3
  have f3 := H1.out.box.frozen 3
  go_upto_region 4 with fail
  have H2 := hide (H1.out.next (KeepX.set hp true w1 3 (.bool true)) (H1.out.box.set_ 3 _))
  have HK2 := hide (HK1.out.trans (KeepX.set hp u w1 3 (.bool true)))
  have HBC2 := hide ((KeepX.set hp true w1 3 (.bool true)).blk HBC1.out hne (.inl rfl))
  clear c2 c3 f3 H1 HK1 HBC1
  generalize w1.setCell _ _ = W2 at *
  have c2 : W2.cell? ⟨hp, 2, none⟩ = some (.int .i64 2) := H2.out.box.cell 2
  have c5 : W2.cell? ⟨hp, 5, none⟩ = some (.slice Ao1 mo1 co1) := H2.out.box.cell 5
  have HOL := hide (bytes_len H2.out.outr)
  have HOC := hide H2.out.oc
  obtain ⟨m, hm⟩ : ∃ m, min mo1 32 = m := ⟨_, rfl⟩
  have hmm : m ≤ mo1 := by omega
  have hmc : (m : Int) ≤ (co1 : Int) := by have := HOC.out.1; omega
  have hm0 : (0 : Int) ≤ (m : Int) := by omega
  have m2 : min (mo1 : Int) (32 : Int) = (m : Int) := by omega
  have HCL := hide (byclone_any Ao1 m co1 W2.heap.size (bytesV (out'.take m)) W2.drew (by have h1 := (H2.out.outr.take hmm); rw [bytesV_take] at h1; exact h1.drew) (bytesV_one _) (Nat.le_refl _) (by omega) (by have h1 := (H2.out.outr.take hmm); exact some_of h1))
  have HMM := hide (show m = min out'.length 32 from by rw [HOL.out]; exact hm.symm)
  clear hm hmm
  have c5d : W2.drew.cell? ⟨hp, 5, none⟩ = some (.slice Ao1 mo1 co1) := c5
  go_upto_region 8 with fail
  go_region_held3 (fun w' => w'.cell? ⟨hp, 5, none⟩ = some (.slice Ao1 mo1 co1)) (first | with_reducible exact c5d | with_reducible exact k50 | ((repeat (with_reducible refine far1 ?_ hne _)); with_reducible exact k50) | fail)
    (first | (go_at_call 37; (with_reducible refine HCL.out.mono ?_); rintro e w3 ⟨A3, cc3, rfl, ho3, hx3⟩; have k50 : w3.cell? ⟨hp, 5, none⟩ = some (.slice Ao1 mo1 co1) := Ext.cell (w := W2.drew) hx3 c5; have HBC3 := hide (HBC2.out.ext ((Ext.refl W2).drew.trans hx3)); have g0 := HBC3.out.frozen 0; have g1 := HBC3.out.frozen 1; have g2 := HBC3.out.frozen 2; have g3 := HBC3.out.frozen 3; have g4 := HBC3.out.frozen 4; have g5 := HBC3.out.frozen 5; have g6 := HBC3.out.frozen 6; have k0 : w3.cell? ⟨hb + 1, 0, none⟩ = some (.int .i64 0) := HBC3.out.cell 0; have k1 : w3.cell? ⟨hb + 1, 1, none⟩ = some (.int .i64 0) := HBC3.out.cell 1; have k2 : w3.cell? ⟨hb + 1, 2, none⟩ = some (.int .i64 0) := HBC3.out.cell 2; have k3 : w3.cell? ⟨hb + 1, 3, none⟩ = some (.int .i64 0) := HBC3.out.cell 3; have k4 : w3.cell? ⟨hb + 1, 4, none⟩ = some (.string ⟨#[]⟩) := HBC3.out.cell 4; have k5 : w3.cell? ⟨hb + 1, 5, none⟩ = some (.string ⟨#[]⟩) := HBC3.out.cell 5; have k6 : w3.cell? ⟨hb + 1, 6, none⟩ = some (.slice none 0 0) := HBC3.out.cell 6) | fail)
  all_goals
    have HX3 := hide ((Ext.refl W2).drew.trans hx3)
    have H3 := hide (H2.out.more HX3.out)
    have HK3 := hide (HK2.out.trans (KeepX.of HX3.out hp u))
    have HO3 := hide (Reads.of_own ho3)
    have HL3 := hide (own_le ho3)
    clear ho3 hx3 k0 k1 k2 k3 k4 k5 k6 g0 g1 g2 g3 g4 g5 g6 c5 c5d k50
    go_wp2_with fail
    refine next_ret rfl rfl (((((((HBC3.out.set_ 0 _).set_ 1 _).set_ 2 _).set_ 3 _).set_ 4 _).set_ 5 _).set_ 6 _) ⟨⟨A3, m, cc3, HMM.out, HL3.out.1, HL3.out.2, rfl, ?_⟩, ?_, (((((((HK3.out.new hg1 0 _).new hg1 1 _).new hg1 2 _).new hg1 3 _).new hg1 4 _).new hg1 5 _).new hg1 6 _)⟩
    · exact KeepX.bytes (((((((KeepX.set (hb + 1) true w3 0 _).trans (KeepX.set (hb + 1) true _ 1 _)).trans (KeepX.set (hb + 1) true _ 2 _)).trans (KeepX.set (hb + 1) true _ 3 _)).trans (KeepX.set (hb + 1) true _ 4 _)).trans (KeepX.set (hb + 1) true _ 5 _)).trans (KeepX.set (hb + 1) true _ 6 _)) HO3.out HBC3.out call_nob
    · exact H3.out.otherG HF1.out (((((((KeepX.set (hb + 1) true w3 0 _).trans (KeepX.set (hb + 1) true _ 1 _)).trans (KeepX.set (hb + 1) true _ 2 _)).trans (KeepX.set (hb + 1) true _ 3 _)).trans (KeepX.set (hb + 1) true _ 4 _)).trans (KeepX.set (hb + 1) true _ 5 _)).trans (KeepX.set (hb + 1) true _ 6 _)) HBC3.out call_nob hg0 (Ne.symm hne)
set_option maxHeartbeats 8000000 in
set_option maxRecDepth 100000 in
theorem next_t3g {Φ : Option Addr → Option Addr → Nat → Prop} {w0 w : World} {hp : Nat} {nm : Bs} {L : List Bs} {d : Int} {st st' : Int} {inp inp' out out' : Bs} {u : Bool} (h : TAtG Φ w0 w hp nm L d true st inp out) (er a : Int) (Ad : Option Addr) (nd cd : Nat)
    (G : ∀ W, Ext w W → TAtG Φ w0 W hp nm L d true st inp out → Calls Tryz.prog 48 #[.pointer (some ⟨hp, 0, none⟩), .agg #[.int .i64 er, .int .i64 a, .int .i64 0, .slice Ad nd cd, .slice none 0 0, .int .i64 0, .int .i64 0, .int .i64 0, .int .i64 0, .int .i64 0, .int .i64 0]] W fun e w' => e = .returned (.tuple #[]) ∧ TAtG Φ w0 w' hp nm L 3 true st' inp' out' ∧ KeepX hp u W w') :
    Calls Tryz.prog 23 #[.pointer (some ⟨hp, 0, none⟩), .agg #[.int .i64 er, .int .i64 a, .int .i64 0, .slice Ad nd cd, .slice none 0 0, .int .i64 0, .int .i64 0, .int .i64 0, .int .i64 0, .int .i64 0, .int .i64 0]] w fun e w' => CallExit st' e ∧ TAtG Φ w0 w' hp nm L 3 false st' inp' out' ∧ KeepX hp u w w' := by
  have hlt := h.lt
  have HBA := hide ((Blk.new w 55 #[.int .i64 er, .int .i64 a, .int .i64 0, .slice Ad nd cd, .slice none 0 0, .int .i64 0, .int .i64 0, .int .i64 0, .int .i64 0, .int .i64 0, .int .i64 0]).alloc (.cells #[.int .i64 0, .int .i64 0, .int .i64 0, .int .i64 0, .string ⟨#[]⟩, .string ⟨#[]⟩, .slice none 0 0] 57))
  have HBC := hide (Blk.new (w.alloc (.cells #[.int .i64 er, .int .i64 a, .int .i64 0, .slice Ad nd cd, .slice none 0 0, .int .i64 0, .int .i64 0, .int .i64 0, .int .i64 0, .int .i64 0, .int .i64 0] 55)) 57 #[.int .i64 0, .int .i64 0, .int .i64 0, .int .i64 0, .string ⟨#[]⟩, .string ⟨#[]⟩, .slice none 0 0])
  have HX := hide (((Ext.refl w).alloc (.cells #[.int .i64 er, .int .i64 a, .int .i64 0, .slice Ad nd cd, .slice none 0 0, .int .i64 0, .int .i64 0, .int .i64 0, .int .i64 0, .int .i64 0, .int .i64 0] 55)).alloc (.cells #[.int .i64 0, .int .i64 0, .int .i64 0, .int .i64 0, .string ⟨#[]⟩, .string ⟨#[]⟩, .slice none 0 0] 57))
  have hz : (w.alloc (.cells #[.int .i64 er, .int .i64 a, .int .i64 0, .slice Ad nd cd, .slice none 0 0, .int .i64 0, .int .i64 0, .int .i64 0, .int .i64 0, .int .i64 0, .int .i64 0] 55)).heap.size = w.heap.size + 1 := by simp
  rw [hz] at HBC
  have HT := hide (h.more HX.out)
  have hne : w.heap.size + 1 ≠ hp := by omega
  have hge : w.heap.size ≤ w.heap.size + 1 := by omega
  have hg0 : w0.heap.size ≤ w.heap.size + 1 := by
    obtain ⟨_, _, _, _, _, _, _, _, _, h, _⟩ := h
    have := h.ext.size
    omega
  clear h hz
  have HG := hide G
  clear G
  go_enter Tryz.func23, Tryz.ntmps23
  go_upto_region 1 with fail
  obtain ⟨W, hW⟩ : ∃ W, W = (w.alloc (.cells #[.int .i64 er, .int .i64 a, .int .i64 0, .slice Ad nd cd, .slice none 0 0, .int .i64 0, .int .i64 0, .int .i64 0, .int .i64 0, .int .i64 0, .int .i64 0] 55)).alloc (.cells #[.int .i64 0, .int .i64 0, .int .i64 0, .int .i64 0, .string ⟨#[]⟩, .string ⟨#[]⟩, .slice none 0 0] 57) := ⟨_, rfl⟩
  obtain ⟨hb, hhb⟩ : ∃ hb, hb = w.heap.size := ⟨_, rfl⟩
  rw [← hW] at HBA HBC HX HT ⊢
  have hg1 : w.heap.size ≤ hb + 1 := by omega
  rw [← hhb] at HBA HBC hne hg0 ⊢
  clear hW hge hhb hlt
  have HG1 := hide (HG.out W HX.out HT.out)
  obtain ⟨A, n, c, Ai, mi, ci, Ao, mo, co, ht, _⟩ := HT.out
  have c3 : W.cell? ⟨hp, 3, none⟩ = some (.bool true) := ht.box.cell 3
  have a0 := HBA.out.cell 0
  have a1 := HBA.out.cell 1
  have a2 := HBA.out.cell 2
  have a3 := HBA.out.cell 3
  have a4 := HBA.out.cell 4
  have a5 := HBA.out.cell 5
  have a6 := HBA.out.cell 6
  have a7 := HBA.out.cell 7
  have a8 := HBA.out.cell 8
  have a9 := HBA.out.cell 9
  have a10 := HBA.out.cell 10
  simp only [List.getElem?_toArray, List.getElem?_cons_zero, List.getElem?_cons_succ] at a0 a1 a2 a3 a4 a5 a6 a7 a8 a9 a10
  clear ht HT HG
  go_wp2_with fail
  refine HG1.out.mono ?_
  rintro e w1 ⟨rfl, h1, hk1⟩
  have HK1 := hide ((KeepX.of HX.out hp u).trans hk1)
  have HBC1 := hide (hk1.blk HBC.out hne (.inr (by decide)))
  obtain ⟨A1, n1, c1, Ai1, mi1, ci1, Ao1, mo1, co1, h1, hf1⟩ := h1
  have HF1 := hide hf1
  clear hf1
  have H1 := hide h1
  clear h1 hk1 c3 a0 a1 a2 a3 a4 a5 a6 a7 a8 a9 a10
  have c2 : w1.cell? ⟨hp, 2, none⟩ = some (.int .i64 3) := H1.out.box.cell 2
  have c3 : w1.cell? ⟨hp, 3, none⟩ = some (.bool true) := H1.out.box.cell 3
  have f3 := H1.out.box.frozen 3
  go_upto_region 4 with fail
  have H2 := hide (H1.out.next (KeepX.set hp true w1 3 (.bool false)) (H1.out.box.set_ 3 _))
  have HK2 := hide (HK1.out.trans (KeepX.set hp u w1 3 (.bool false)))
  have HBC2 := hide ((KeepX.set hp true w1 3 (.bool false)).blk HBC1.out hne (.inl rfl))
  clear c2 c3 f3 H1 HK1 HBC1
  generalize w1.setCell _ _ = W2 at *
  have c2 : W2.cell? ⟨hp, 2, none⟩ = some (.int .i64 3) := H2.out.box.cell 2
  have g0 := HBC2.out.frozen 0
  have g1 := HBC2.out.frozen 1
  have g2 := HBC2.out.frozen 2
  have g3 := HBC2.out.frozen 3
  have g4 := HBC2.out.frozen 4
  have g5 := HBC2.out.frozen 5
  have g6 := HBC2.out.frozen 6
  have k0 := HBC2.out.cell 0
  have k1 := HBC2.out.cell 1
  have k2 := HBC2.out.cell 2
  have k3 := HBC2.out.cell 3
  have k4 := HBC2.out.cell 4
  have k5 := HBC2.out.cell 5
  have k6 := HBC2.out.cell 6
  simp only [List.getElem?_toArray, List.getElem?_cons_zero, List.getElem?_cons_succ] at k0 k1 k2 k3 k4 k5 k6
  have c6 : W2.cell? ⟨hp, 6, none⟩ = some (.int .i64 st') := H2.out.box.cell 6
  go_wp2_with fail
  refine next_ret rfl rfl (((((((HBC2.out.set_ 0 _).set_ 1 _).set_ 2 _).set_ 3 _).set_ 4 _).set_ 5 _).set_ 6 _) ⟨rfl, ?_, (((((((HK2.out.new hg1 0 _).new hg1 1 _).new hg1 2 _).new hg1 3 _).new hg1 4 _).new hg1 5 _).new hg1 6 _)⟩
  exact H2.out.otherG HF1.out (((((((KeepX.set (hb + 1) true W2 0 _).trans (KeepX.set (hb + 1) true _ 1 _)).trans (KeepX.set (hb + 1) true _ 2 _)).trans (KeepX.set (hb + 1) true _ 3 _)).trans (KeepX.set (hb + 1) true _ 4 _)).trans (KeepX.set (hb + 1) true _ 5 _)).trans (KeepX.set (hb + 1) true _ 6 _)) HBC2.out call_nob hg0 (Ne.symm hne)
end Go.Proofs.YtjmonkacijncbaaGreatDoor

namespace Go.Proofs.YtjmonkacijncbaaGreatDoor
open Go.RowKit
set_option linter.unusedVariables false

/-- Where a driven program stands before it is asked: er, aa, (Ad, nd): the answer that it is given; rest: what it has not been given; out: what it has written. -/
inductive DrvPre (Φ : Option Addr → Option Addr → Nat → Prop) (f : Bs → Bs) (s : Bs → Int) (I : Bs) (w0 w : World) (hp : Nat) (nm : Bs) (L : List Bs) (er aa : Int) (Ad : Option Addr) (nd cd : Nat) (ds rest out : Bs) (q : Nat) : Prop
  | first (h : TAt w0 w hp nm L 1 false 0 [] []) (hd : ds = []) (hr : rest = I) (ho : out = []) (hq : q = 1)
  | wait (inp : Bs) (h : TAt w0 w hp nm L 1 true 0 inp []) (he : er = 9) (hr : inp ++ rest = I) (ho : out = []) (hq : q = 1)
  | given (inp : Bs) (h : TAt w0 w hp nm L 1 true 0 inp []) (he : er = 0) (ha : aa = 0) (hr : inp ++ ds ++ rest = I) (hd : nd = 0 → rest = []) (ho : out = []) (hq : 0 < nd → q = 1)
  | told (inp o : Bs) (h : TAt w0 w hp nm L (doingOf o) false (s I) inp o) (ho : out = []) (hw : out ++ o = f I)
  | held (inp o : Bs) (h : TAtG Φ w0 w hp nm L 2 true (s I) inp o) (he : er = 9) (hn : o ≠ []) (hw : out ++ o = f I)
  | took (inp o : Bs) (k : Nat) (h : TAtG Φ w0 w hp nm L 2 true (s I) inp o) (he : er = 0) (ha : aa = (k : Int)) (hA : Ad = none ∧ nd = 0 ∧ cd = 0) (hk : k ≤ o.length) (hw : out ++ o.drop k = f I)
/-- .. and behind it. -/
inductive DrvPost (Φ : Option Addr → Option Addr → Nat → Prop) (f : Bs → Bs) (s : Bs → Int) (I : Bs) (w0 : World) (hp : Nat) (nm : Bs) (L : List Bs) (rest out : Bs) (q : Nat) (e : Ending) (w' : World) : Prop
  | reads (inp : Bs) (hc : CallRead e) (h : TAt w0 w' hp nm L 1 true 0 inp []) (hr : inp ++ rest = I) (ho : out = []) (hq : q = 1)
  | writes (inp o : Bs) (hc : CallWrite o e w') (h : TAtG Φ w0 w' hp nm L 2 true (s I) inp o) (hn : o ≠ []) (hw : out ++ o = f I)
  | ends (hc : CallExit (s I) e) (hx : Ext w0 w') (hw : out = f I)
/-- What stays while a program is driven. -/
def Outs (hp : Nat) (out : Bs) (w w' : World) : Prop := KeepX hp false w w' ∧ (out ≠ [] → KeepX hp true w w')
theorem Outs.of {hp : Nat} {w w' : World} (h : KeepX hp true w w') (out : Bs) : Outs hp out w w' := ⟨h.weak, fun _ => h⟩
theorem doing_cases (o : Bs) : (o = [] ∧ doingOf o = 3) ∨ (o ≠ [] ∧ doingOf o = 2) := by
  by_cases h : o = []
  · exact .inl ⟨h, by subst h; rfl⟩
  · exact .inr ⟨h, if_neg (fun e => h (List.eq_nil_of_length_eq_zero e))⟩
set_option maxHeartbeats 1000000 in
theorem next_drv {Φ : Option Addr → Option Addr → Nat → Prop} {f : Bs → Bs} {s : Bs → Int} {I : Bs} {w0 w : World} {hp : Nat} {nm : Bs} {L : List Bs} {er aa : Int} {Ad : Option Addr} {nd cd : Nat} {ds rest out : Bs} {q : Nat}
    (hm : MeanAt nm L f s) (hL : LibOk w0) (hI : I.length ≤ 1024) (hrd : Reads w w.heap.size 1 Ad nd (bytesV ds))
    (hΦ : out = [] → ∀ a b c, Φ a b c) (hΨ : ∀ a b c b' c', Φ a b c → c' ≤ c → (∀ x, b' = some x → ∃ y, b = some y ∧ x.block = y.block) → Φ a b' c')
    (h : DrvPre Φ f s I w0 w hp nm L er aa Ad nd cd ds rest out q) :
    Calls Tryz.prog 23 #[.pointer (some ⟨hp, 0, none⟩), .agg #[.int .i64 er, .int .i64 aa, .int .i64 0, .slice Ad nd cd, .slice none 0 0, .int .i64 0, .int .i64 0, .int .i64 0, .int .i64 0, .int .i64 0, .int .i64 0]] w fun e w' => DrvPost Φ f s I w0 hp nm L rest out q e w' ∧ Outs hp out w w' := by
  cases h with
  | first h hd hr ho hq =>
    subst ho
    refine (next_f1 (u := true) h er aa Ad nd cd).mono ?_
    rintro e w' ⟨hc, ht, hk⟩
    exact ⟨.reads [] hc ht (by simpa using hr) rfl hq, .of hk _⟩
  | wait inp h he hr ho hq =>
    subst ho he
    refine (next_t1 (u := true) (st' := 0) (inp' := inp) (out' := []) h 9 aa Ad nd cd fun W hx hT => ?_).mono ?_
    · obtain ⟨A, n, c, Ai, mi, ci, Ao, mo, co, hT⟩ := hT
      refine (got_wait hT aa Ad nd cd).mono ?_
      rintro e w' ⟨rfl, h', hk⟩
      exact ⟨rfl, ⟨_, _, _, _, _, _, _, _, _, h'⟩, hk⟩
    · rintro e w' ⟨hc, ht, hk⟩
      exact ⟨.reads inp hc ht hr rfl hq, .of hk _⟩
  | given inp h he ha hr hd ho hq =>
    subst ho he ha
    have hdl := bytes_len hrd
    have hIl := congrArg List.length hr
    simp only [List.length_append] at hIl
    rcases Nat.eq_zero_or_pos nd with h0 | h0
    · subst h0
      have hde : ds = [] := List.eq_nil_of_length_eq_zero hdl
      subst hde
      have hre := hd rfl
      subst hre
      have hii : inp = I := by simpa using hr
      subst hii
      have G : ∀ W, Ext w W → TAt w0 W hp nm L 1 true 0 inp [] → Calls Tryz.prog 48 #[.pointer (some ⟨hp, 0, none⟩), .agg #[.int .i64 0, .int .i64 0, .int .i64 0, .slice Ad 0 cd, .slice none 0 0, .int .i64 0, .int .i64 0, .int .i64 0, .int .i64 0, .int .i64 0, .int .i64 0]] W fun e w' => e = .returned (.tuple #[]) ∧ TAt w0 w' hp nm L (doingOf (f inp)) true (s inp) inp (f inp) ∧ KeepX hp false W w' := fun W hx hT => by
        obtain ⟨A, n, c, Ai, mi, ci, Ao, mo, co, hT⟩ := hT
        have hmo : mo = 0 := by have := bytes_len hT.outr; simpa using this.symm
        refine (got_end2 hT hmo Ad cd hm hL hI).mono ?_
        rintro e w' ⟨rfl, ⟨Ao', mo', co', Ai', ci', h'⟩, hk⟩
        exact ⟨rfl, ⟨_, _, _, _, _, _, _, _, _, h'⟩, hk⟩
      rcases doing_cases (f inp) with ⟨ho, hd⟩ | ⟨ho, hd⟩
      · rw [hd] at G
        refine (next_t3 (u := false) (st' := s inp) (inp' := inp) (out' := f inp) h 0 0 Ad 0 cd G).mono ?_
        rintro e w' ⟨hc, ht, hk⟩
        exact ⟨.ends hc ht.ext ho.symm, hk, fun h => absurd rfl h⟩
      · rw [hd] at G
        refine (next_t2 (u := false) (st' := s inp) (inp' := inp) (out' := f inp) h 0 0 Ad 0 cd G).mono ?_
        rintro e w' ⟨hc, ht, hk⟩
        exact ⟨.writes inp (f inp) hc (ht.withG (hΦ rfl)) ho rfl, hk, fun h => absurd rfl h⟩
    · refine (next_t1 (u := false) (st' := 0) (inp' := inp ++ ds) (out' := []) h 0 0 Ad nd cd fun W hx hT => ?_).mono ?_
      · obtain ⟨A, n, c, Ai, mi, ci, Ao, mo, co, hT⟩ := hT
        have hmo : mo = 0 := by have := bytes_len hT.outr; simpa using this.symm
        refine (got_read hT hmo Ad nd cd ds _ (hx.reads hrd (Nat.le_refl _)) hx.size h0 (by omega)).mono ?_
        rintro e w' ⟨rfl, ⟨Ai', ci', h'⟩, hk⟩
        exact ⟨rfl, ⟨_, _, _, _, _, _, _, _, _, h'⟩, hk⟩
      · rintro e w' ⟨hc, ht, hk⟩
        exact ⟨.reads (inp ++ ds) hc ht hr rfl (hq h0), hk, fun h => absurd rfl h⟩
  | told inp o h he hw =>
    subst he
    rcases doing_cases o with ⟨ho, hd⟩ | ⟨ho, hd⟩
    · rw [hd] at h
      refine (next_f3 (u := true) h er aa Ad nd cd).mono ?_
      rintro e w' ⟨hc, ht, hk⟩
      exact ⟨.ends hc ht.ext (by rw [ho, List.append_nil] at hw; exact hw), .of hk _⟩
    · rw [hd] at h
      refine (next_f2 (u := true) h er aa Ad nd cd).mono ?_
      rintro e w' ⟨hc, ht, hk⟩
      exact ⟨.writes inp o hc (ht.withG (hΦ rfl)) ho hw, .of hk _⟩
  | held inp o h he hn hw =>
    subst he
    refine (next_t2g (u := true) (st' := s I) (inp' := inp) (out' := o) h 9 aa Ad nd cd fun W hx hT => ?_).mono ?_
    · obtain ⟨A, n, c, Ai, mi, ci, Ao, mo, co, hT, hF⟩ := hT
      refine (got_wait hT aa Ad nd cd).mono ?_
      rintro e w' ⟨rfl, h', hk⟩
      exact ⟨rfl, ⟨_, _, _, _, _, _, _, _, _, h', hF⟩, hk⟩
    · rintro e w' ⟨hc, ht, hk⟩
      exact ⟨.writes inp o hc ht hn hw, .of hk _⟩
  | took inp o k h he ha hA hk hw =>
    obtain ⟨rfl, rfl, rfl⟩ := hA
    subst he ha
    have G : ∀ W, Ext w W → TAtG Φ w0 W hp nm L 2 true (s I) inp o → Calls Tryz.prog 48 #[.pointer (some ⟨hp, 0, none⟩), .agg #[.int .i64 0, .int .i64 (k : Int), .int .i64 0, .slice none 0 0, .slice none 0 0, .int .i64 0, .int .i64 0, .int .i64 0, .int .i64 0, .int .i64 0, .int .i64 0]] W fun e w' => e = .returned (.tuple #[]) ∧ TAtG Φ w0 w' hp nm L (doingOf (o.drop k)) true (s I) inp (o.drop k) ∧ KeepX hp true W w' := fun W hx hT => by
      obtain ⟨A, n, c, Ai, mi, ci, Ao, mo, co, hT, hF⟩ := hT
      have hmo := bytes_len hT.outr
      refine (got_write2 hT k k (by omega)).mono ?_
      rintro e w' ⟨rfl, ⟨Ao', mo', co', h', hm', hb'⟩, hk⟩
      exact ⟨rfl, ⟨_, _, _, _, _, _, _, _, _, h', hΨ _ _ _ _ _ hF hm' hb'⟩, hk⟩
    rcases doing_cases (o.drop k) with ⟨ho, hd⟩ | ⟨ho, hd⟩
    · rw [hd] at G
      refine (next_t3g (u := true) (st' := s I) (inp' := inp) (out' := o.drop k) h 0 (k : Int) none 0 0 G).mono ?_
      rintro e w' ⟨hc, ht, hk⟩
      exact ⟨.ends hc ht.plain.ext (by rw [ho, List.append_nil] at hw; exact hw), .of hk _⟩
    · rw [hd] at G
      refine (next_t2g (u := true) (st' := s I) (inp' := inp) (out' := o.drop k) h 0 (k : Int) none 0 0 G).mono ?_
      rintro e w' ⟨hc, ht, hk⟩
      exact ⟨.writes inp (o.drop k) hc ht ho hw, .of hk _⟩
end Go.Proofs.YtjmonkacijncbaaGreatDoor

namespace Go.Proofs.YtjmonkacijncbaaGreatDoor
open Go.RowKit
set_option linter.unusedVariables false

/-- Bytes that stay while a program is driven. -/
def Stays (wd w0 : World) (hp : Nat) (A : Option Addr) (n : Nat) (b : Bs) : Prop := ∀ w', KeepX hp false wd w' → Ext w0 w' → Reads w' w'.heap.size 1 A n (bytesV b)
theorem Stays.take {wd w0 : World} {hp : Nat} {A : Option Addr} {n : Nat} {b : Bs} (h : Stays wd w0 hp A n b) {k : Nat} (hk : k ≤ n) : Stays wd w0 hp A k (b.take k) := fun w' h1 h2 => by
  have := (h w' h1 h2).take hk
  rwa [bytesV_take] at this
theorem Stays.cut {wd w0 : World} {hp : Nat} {A : Option Addr} {n : Nat} {b : Bs} (h : Stays wd w0 hp A n b) {k c : Nat} (hk : k ≤ n) (hc : n ≤ c) : Stays wd w0 hp (if c = k then A else A.map (·.add k)) (n - k) (b.drop k) := fun w' h1 h2 => by
  have := (h w' h1 h2).cut hk hc
  rwa [Nat.mul_one, bytesV_drop] at this
/-- The program's rows of bytes lie below B, as soon as something was written. -/
def LowB (out : Bs) (B : Nat) : Option Addr → Option Addr → Nat → Prop := fun Ai Ao mo => out ≠ [] → (∀ a, Ai = some a → a.block < B) ∧ (0 < mo → ∀ a, Ao = some a → a.block < B)
theorem lowb_nil {out : Bs} {B : Nat} : out = [] → ∀ a b c, LowB out B a b c := fun h _ _ _ h' => absurd h h'
theorem lowb_cut {out : Bs} {B : Nat} : ∀ a b c b' c', LowB out B a b c → c' ≤ c → (∀ x, b' = some x → ∃ y, b = some y ∧ x.block = y.block) → LowB out B a b' c' := fun a b c b' c' h hc hb hn => ⟨(h hn).1, fun hp x hx => by
  obtain ⟨y, h1, h2⟩ := hb x hx
  rw [h2]
  exact (h hn).2 (by omega) y h1⟩
theorem TAtG.far {Φ : Option Addr → Option Addr → Nat → Prop} {w0 w w' : World} {hp g : Nat} {nm : Bs} {L : List Bs} {d : Int} {q : Bool} {st : Int} {inp out : Bs} {t : TypeId} {cs : Array Value} (h : TAtG Φ w0 w hp nm L d q st inp out) (hk : KeepX g true w w') (hb : Blk w g t cs) (hc : ∀ (i : Nat) (x : Int), cs[i]? ≠ some (.int .u8 x)) (ht : t ≠ 80 ∧ t ≠ 9 ∧ t ≠ 5) (hg : w0.heap.size ≤ g) : TAtG Φ w0 w' hp nm L d q st inp out := by
  have hne := other_ne h.plain hb ht.1
  obtain ⟨A, n, c, Ai, mi, ci, Ao, mo, co, h, hf⟩ := h
  exact ⟨A, n, c, Ai, mi, ci, Ao, mo, co, ⟨hk.blk h.box (Ne.symm hne) (.inl rfl), h.ge, hk.ext (u := true) h.ext hg, hk.own h.args (own_blk_ne h.args hb (Ne.symm ht.2.1)) (.inl rfl), hk.own h.inn (own_blk_ne h.inn hb (Ne.symm ht.2.2)) (.inl rfl), hk.bytes h.outr hb hc, h.oc⟩, hf⟩
/-- What was written may grow: the program's own rows stay. -/
theorem grow_any {w0 wd w : World} {hp : Nat} {nm : Bs} {L : List Bs} {d : Int} {q : Bool} {st : Int} {inp o out : Bs} {B : Nat} {A9 : Option Addr} {n9 c9 : Nat} (h : TAtG (LowB out B) w0 w hp nm L d q st inp o) (ho : w.ownsRow B 5 1 (.slice A9 n9 c9) n9 (bytesV out)) (hon : out = [] → A9 = none) (hB : wd.heap.size ≤ B) (h0 : w0.heap.size ≤ wd.heap.size) (hw : wd.heap.size ≤ w.heap.size) :
    ∃ B', wd.heap.size ≤ B' ∧ B' ≤ w.heap.size ∧ w.ownsRow B' 5 1 (.slice A9 n9 c9) n9 (bytesV out) ∧ ∀ w8 out', w.grownBy w8 (Value.ownBlock (.slice A9 n9 c9)) → TAtG (LowB out' B') w0 w8 hp nm L d q st inp o := by
  obtain ⟨A, n, c, Ai, mi, ci, Ao, mo, co, h, hf⟩ := h
  by_cases he : out = []
  · have hA := hon he
    obtain ⟨A', c', hv, _, _, hn⟩ := own_form ho
    injection hv with e1 e2 e3
    subst e1
    obtain ⟨hn0, hc0⟩ := hn hA
    subst hA
    rw [e3, hc0, hn0, he]
    refine ⟨w.heap.size, hw, Nat.le_refl _, World.ownsRow_nil _ _ _ _, fun w8 out' hg => ?_⟩
    refine ⟨A, n, c, Ai, mi, ci, Ao, mo, co, h.more ((Ext.refl w).grown hg (by simp [Value.ownBlock])), fun _ => ⟨fun a ha => ?_, fun hm a ha => ?_⟩⟩
    · rcases h.inn.2 with ⟨hv, _⟩ | ⟨g, cap, cur, hv, _, hh, _⟩
      · injection hv with hv _ _
        rw [hv] at ha
        cases ha
      · injection hv with hv _ _
        rw [hv] at ha
        injection ha with ha
        subst ha
        exact Blk.lt hh
    · obtain ⟨ad, e, hb, _⟩ := h.outr.2 hm
      rw [e] at ha
      injection ha with ha
      subst ha
      exact hb
  · rcases ho.2 with ⟨hv, _⟩ | ⟨g, cap, cur, hv, hBg, hh, _⟩
    · have hl := bytes_len (Reads.of_own ho)
      injection hv with _ hv _
      exact absurd (List.eq_nil_of_length_eq_zero (by omega)) he
    · obtain ⟨hf1, hf2⟩ := hf he
      have hg' : g < w.heap.size := Blk.lt hh
      refine ⟨B, hB, by omega, ho, fun w8 out' hg => ?_⟩
      have hob : Value.ownBlock (.slice A9 n9 c9) = some g := by rw [hv]; rfl
      rw [hob] at hg
      refine ⟨A, n, c, Ai, mi, ci, Ao, mo, co, ⟨?_, h.ge, h.ext.grown hg fun k hk => ?_, ?_, ?_, ⟨h.outr.1, fun hm => ?_⟩, h.oc⟩, fun _ => ⟨hf1, hf2⟩⟩
      · exact h.box.grown hg fun e => by
          injection e with e
          exact Blk.ne_ (t := 5) hh h.box (by decide) e.symm
      · injection hk with hk
        omega
      · exact h.args.kept hg (.inr (own_blk_ne h.args hh (by decide)))
      · refine h.inn.kept hg (.inr fun e => ?_)
        rcases h.inn.2 with ⟨hv2, _⟩ | ⟨g2, cap2, cur2, hv2, _, hh2, _⟩
        · rw [hv2] at e
          simp [Value.ownBlock] at e
        · rw [hv2] at e
          simp only [Value.ownBlock, Option.some.injEq] at e
          injection hv2 with hv2 _ _
          have := hf1 _ hv2
          dsimp only at this
          omega
      · obtain ⟨ad, e, hb, hc⟩ := h.outr.2 hm
        have hlt := hf2 hm ad e
        exact ⟨ad, e, Nat.lt_of_lt_of_le hb hg.size, fun j u hu => (World.cell?_of_block (by rw [add_block]; exact hg.block _ hb (by simp only [ne_eq, Option.some.injEq]; omega))).trans (hc j u hu)⟩
/-- What was asked, by its numbers. -/
inductive DrvC (Φ : Option Addr → Option Addr → Nat → Prop) (f : Bs → Bs) (s : Bs → Int) (I : Bs) (w0 : World) (hp : Nat) (nm : Bs) (L : List Bs) (rest out : Bs) (q : Nat) (z0 z1 z3 : Int) (A : Option Addr) (m c : Nat) (w' : World) : Prop
  | reads (inp : Bs) (h0 : z0 = 7) (h1 : z1 = 0) (h3 : z3 = 32) (h : TAt w0 w' hp nm L 1 true 0 inp []) (hr : inp ++ rest = I) (ho : out = []) (hq : q = 1)
  | writes (inp o : Bs) (h0 : z0 = 8) (h1 : z1 = 1) (hm : m = min o.length 32) (hmc : m ≤ c) (hcm : c ≤ maxLen) (hrd : Reads w' w'.heap.size 1 A m (bytesV (o.take m))) (h : TAtG Φ w0 w' hp nm L 2 true (s I) inp o) (hn : o ≠ []) (hw : out ++ o = f I)
  | ends (h0 : z0 = 1) (h1 : z1 = s I) (hx : Ext w0 w') (hw : out = f I)
theorem DrvC.more {Φ : Option Addr → Option Addr → Nat → Prop} {f : Bs → Bs} {s : Bs → Int} {I : Bs} {w0 w w' : World} {hp : Nat} {nm : Bs} {L : List Bs} {rest out : Bs} {q : Nat} {z0 z1 z3 : Int} {A : Option Addr} {m c : Nat} (h : DrvC Φ f s I w0 hp nm L rest out q z0 z1 z3 A m c w) (hx : Ext w w') : DrvC Φ f s I w0 hp nm L rest out q z0 z1 z3 A m c w' := by
  cases h with
  | reads inp h0 h1 h3 h hr ho hq => exact .reads inp h0 h1 h3 (h.more hx) hr ho hq
  | writes inp o h0 h1 hm hmc hcm hrd h hn hw => exact .writes inp o h0 h1 hm hmc hcm ((hx.reads hrd (Nat.le_refl _)).more hx.size) (h.more hx) hn hw
  | ends h0 h1 hxx hw => exact .ends h0 h1 (hxx.trans hx) hw
theorem DrvC.ext {Φ : Option Addr → Option Addr → Nat → Prop} {f : Bs → Bs} {s : Bs → Int} {I : Bs} {w0 w : World} {hp : Nat} {nm : Bs} {L : List Bs} {rest out : Bs} {q : Nat} {z0 z1 z3 : Int} {A : Option Addr} {m c : Nat} (h : DrvC Φ f s I w0 hp nm L rest out q z0 z1 z3 A m c w) : Ext w0 w := by
  cases h with
  | reads inp h0 h1 h3 h => exact h.ext
  | writes inp o h0 h1 hm hmc hcm hrd h => exact h.plain.ext
  | ends h0 h1 hxx => exact hxx
theorem DrvC.far {Φ : Option Addr → Option Addr → Nat → Prop} {f : Bs → Bs} {s : Bs → Int} {I : Bs} {w0 w w' : World} {hp g : Nat} {nm : Bs} {L : List Bs} {rest out : Bs} {q : Nat} {z0 z1 z3 : Int} {A : Option Addr} {m c : Nat} {t : TypeId} {cs : Array Value} (h : DrvC Φ f s I w0 hp nm L rest out q z0 z1 z3 A m c w) (hk : KeepX g true w w') (hb : Blk w g t cs) (hc : ∀ (i : Nat) (x : Int), cs[i]? ≠ some (.int .u8 x)) (ht : t ≠ 80 ∧ t ≠ 9 ∧ t ≠ 5) (hg : w0.heap.size ≤ g) : DrvC Φ f s I w0 hp nm L rest out q z0 z1 z3 A m c w' := by
  cases h with
  | reads inp h0 h1 h3 h hr ho hq => exact .reads inp h0 h1 h3 (h.far hk hb hc ht hg) hr ho hq
  | writes inp o h0 h1 hm hmc hcm hrd h hn hw => exact .writes inp o h0 h1 hm hmc hcm (hk.bytes hrd hb hc) (h.far hk hb hc ht hg) hn hw
  | ends h0 h1 hxx hw => exact .ends h0 h1 (hk.ext (u := true) hxx hg) hw
theorem KeepX.other {hp g : Nat} {u : Bool} {a b c : World} (h : KeepX hp u a b) (k : KeepX g true b c) (hg : a.heap.size ≤ g) : KeepX hp u a c :=
  ⟨k.os.trans h.os, k.tape.trans h.tape, k.output.trans h.output, Nat.le_trans h.size k.size, fun i hi hne hu => (k.block i (Nat.lt_of_lt_of_le hi h.size) (by omega) (.inl rfl)).trans (h.block i hi hne hu)⟩
theorem DrvPost.call {Φ : Option Addr → Option Addr → Nat → Prop} {f : Bs → Bs} {s : Bs → Int} {I : Bs} {w0 w' : World} {hp : Nat} {nm : Bs} {L : List Bs} {rest out : Bs} {q : Nat} {e : Ending} (h : DrvPost Φ f s I w0 hp nm L rest out q e w') :
    ∃ (z0 z1 z3 : Int) (A : Option Addr) (m c : Nat), e = .returned (.agg #[.int .i64 z0, .int .i64 z1, .int .i64 0, .int .i64 z3, .string ⟨#[]⟩, .string ⟨#[]⟩, .slice A m c]) ∧ DrvC Φ f s I w0 hp nm L rest out q z0 z1 z3 A m c w' := by
  cases h with
  | reads inp hc h hr ho hq => exact ⟨7, 0, 32, none, 0, 0, hc, .reads inp rfl rfl rfl h hr ho hq⟩
  | writes inp o hc h hn hw =>
    obtain ⟨A, m, c, hm, hmc, hcm, he, hrd⟩ := hc
    exact ⟨8, 1, _, A, m, c, he, .writes inp o rfl rfl hm hmc hcm hrd h hn hw⟩
  | ends hc hx hw => exact ⟨1, s I, 0, none, 0, 0, hc, .ends rfl rfl hx hw⟩
/-- How many steps may still come. -/
def leftN (rest out fI : Bs) (q : Nat) : Nat := (rest.length + 31) / 32 + q + (fI.length - out.length + 31) / 32 + 3
def DrRel (f : Bs → Bs) (s : Bs → Int) (I : Bs) (w0 wd : World) (hp ha : Nat) (nm : Bs) (L : List Bs) (v1 v9 v14 : Value) (wr : World) : Prop :=
  ∃ (i : Nat) (rest out ds : Bs) (A1 : Option Addr) (n1 c1 : Nat) (A9 : Option Addr) (n9 c9 : Nat) (er aa : Int) (Ad : Option Addr) (nd cd q B : Nat),
    v1 = .slice A1 n1 c1 ∧ v9 = .slice A9 n9 c9 ∧ v14 = .int .i64 (i : Int) ∧ Stays wd w0 hp A1 n1 rest ∧ n1 ≤ c1 ∧ c1 ≤ maxLen ∧
    Reads wr wr.heap.size 1 Ad nd (bytesV ds) ∧ wd.heap.size ≤ B ∧ wr.ownsRow B 5 1 (.slice A9 n9 c9) n9 (bytesV out) ∧ (out = [] → A9 = none) ∧
    Blk wr ha 55 #[.int .i64 er, .int .i64 aa, .int .i64 0, .slice Ad nd cd, .slice none 0 0, .int .i64 0, .int .i64 0, .int .i64 0, .int .i64 0, .int .i64 0, .int .i64 0] ∧
    KeepX hp false wd wr ∧ DrvPre (LowB out B) f s I w0 wr hp nm L er aa Ad nd cd ds rest out q ∧ i + (300 - i) + leftN rest out (f I) q ≤ 1990
theorem DrvPre.tat {Φ : Option Addr → Option Addr → Nat → Prop} {f : Bs → Bs} {s : Bs → Int} {I : Bs} {w0 w : World} {hp : Nat} {nm : Bs} {L : List Bs} {er aa : Int} {Ad : Option Addr} {nd cd : Nat} {ds rest out : Bs} {q : Nat} (h : DrvPre Φ f s I w0 w hp nm L er aa Ad nd cd ds rest out q) : ∃ d p st inp o, TAt w0 w hp nm L d p st inp o := by
  cases h with
  | first h => exact ⟨_, _, _, _, _, h⟩
  | wait _ h => exact ⟨_, _, _, _, _, h⟩
  | given _ h => exact ⟨_, _, _, _, _, h⟩
  | told _ _ h => exact ⟨_, _, _, _, _, h⟩
  | held _ _ h => exact ⟨_, _, _, _, _, h.plain⟩
  | took _ _ _ h => exact ⟨_, _, _, _, _, h.plain⟩
set_option maxHeartbeats 8000000 in
set_option maxRecDepth 100000 in
theorem drive_any {f : Bs → Bs} {s : Bs → Int} {I : Bs} {w0 wd : World} {hp : Nat} {nm : Bs} {L : List Bs} (hm : MeanAt nm L f s) (hL : LibOk w0) (hI : I.length ≤ 600) (hfI : (f I).length ≤ 8000) (hx0 : Ext w0 wd)
    (A1 : Option Addr) (n1 c1 : Nat) (hs : Stays wd w0 hp A1 n1 I) (hnc : n1 ≤ c1) (hc1 : c1 ≤ maxLen)
    (hst : TAt w0 wd hp nm L 1 false 0 [] [] ∨ TAt w0 wd hp nm L (doingOf (f I)) false (s I) [] (f I))
    (AD : Option Addr) (nD cD : Nat) (zs : List Int) (hD : Reads w0 w0.heap.size 1 AD nD (intsV zs)) (hD3 : nD ≤ 300) (hz : ∀ x ∈ zs, -9223372036854775808 ≤ x ∧ x ≤ 9223372036854775807) :
    Calls Tryz.prog 22 #[.pointer (some ⟨hp, 0, none⟩), .slice A1 n1 c1, .slice AD nD cD] wd fun e w' => ∃ A9 n9 c9, e = .returned (.tuple #[.slice A9 n9 c9, .int .i64 (s I), .bool true]) ∧ w'.ownsRow wd.heap.size 5 1 (.slice A9 n9 c9) n9 (bytesV (f I)) ∧ Ext w0 w' ∧ KeepX hp false wd w' := by
  have HS := hide hs
  have HD := hide hD
  have HZ := hide hz
  have HB := hide (Blk.new wd 55 #[.int .i64 0, .int .i64 0, .int .i64 0, .slice none 0 0, .slice none 0 0, .int .i64 0, .int .i64 0, .int .i64 0, .int .i64 0, .int .i64 0, .int .i64 0])
  have HKX := hide (KeepX.of ((Ext.refl wd).alloc (.cells #[.int .i64 0, .int .i64 0, .int .i64 0, .slice none 0 0, .slice none 0 0, .int .i64 0, .int .i64 0, .int .i64 0, .int .i64 0, .int .i64 0, .int .i64 0] 55)) hp false)
  have HPR := hide (show DrvPre (LowB [] wd.heap.size) f s I w0 (wd.alloc (.cells #[.int .i64 0, .int .i64 0, .int .i64 0, .slice none 0 0, .slice none 0 0, .int .i64 0, .int .i64 0, .int .i64 0, .int .i64 0, .int .i64 0, .int .i64 0] 55)) hp nm L 0 0 none 0 0 [] I [] 1 from by
    rcases hst with h | h
    · exact .first (h.more ((Ext.refl wd).alloc _)) rfl rfl rfl rfl
    · exact .told [] (f I) (h.more ((Ext.refl wd).alloc _)) rfl rfl)
  have HBU := hide (show 0 + (300 - 0) + leftN I [] (f I) 1 ≤ 1990 from by unfold leftN; simp only [List.length_nil]; omega)
  have HNX := hide (fun (w : World) (er aa : Int) (Ad : Option Addr) (nd cd : Nat) (ds rest out : Bs) (q B : Nat) (hrd : Reads w w.heap.size 1 Ad nd (bytesV ds)) (h : DrvPre (LowB out B) f s I w0 w hp nm L er aa Ad nd cd ds rest out q) => next_drv hm hL (by omega) hrd lowb_nil lowb_cut h)
  clear hs hD hz hst hm hL
  go_enter Tryz.func22, Tryz.ntmps22
  go_wp2_with fail
  generalize hW : World.alloc _ _ = W at *
  have hsz : wd.heap.size ≤ wd.heap.size := Nat.le_refl _
  obtain ⟨ha, hha⟩ : ∃ ha, wd.heap.size = ha := ⟨_, rfl⟩
  rw [hha] at HB ⊢
  have HGA := hide (show wd.heap.size ≤ ha by omega)
  clear hW hsz
  go_loopw [1, 9, 14] (DrRel f s I w0 wd hp ha nm L) (fun _ _ v _ => 2000 - (intOf v).toNat)
  case atStart => exact ⟨0, I, [], [], A1, n1, c1, none, 0, 0, 0, 0, none, 0, 0, 1, wd.heap.size, rfl, rfl, rfl, HS.out, hnc, hc1, ⟨rfl, fun h => absurd h (by omega)⟩, Nat.le_refl _, World.ownsRow_nil _ _ _ _, fun _ => rfl, HB.out, HKX.out, HPR.out, HBU.out⟩
  case round =>
    obtain ⟨i, rest, out, ds, A2, n2, c2, A9, n9, c9, er, aa, Ad, nd, cd, q, B, rfl, rfl, rfl, hsr, hn2, hc2, hrd, hBd, ho, hon, hb, hkx, hpre, hbud⟩ := hrel
    have hi : i < 2000 := by omega
    have HSR := hide hsr
    have HBD2 := hide hBd
    clear hBd
    have HO := hide ho
    have HON := hide hon
    have HBA := hide hb
    have HKW := hide hkx
    have HBD := hide hbud
    have HN := hide (HNX.out wr er aa Ad nd cd ds rest out q B hrd hpre)
    obtain ⟨d0, p0, st0, inp0, o0, htt⟩ := hpre.tat
    have hne := other_ne htt hb (by decide)
    obtain ⟨_, _, _, _, _, _, _, _, _, hTT⟩ := htt
    have HOP := hide (own_blk_ne HO.out hTT.box (by decide))
    clear hTT
    have a0 := HBA.out.cell 0
    have a1 := HBA.out.cell 1
    have a2 := HBA.out.cell 2
    have a3 := HBA.out.cell 3
    have a4 := HBA.out.cell 4
    have a5 := HBA.out.cell 5
    have a6 := HBA.out.cell 6
    have a7 := HBA.out.cell 7
    have a8 := HBA.out.cell 8
    have a9 := HBA.out.cell 9
    have a10 := HBA.out.cell 10
    simp only [List.getElem?_toArray, List.getElem?_cons_zero, List.getElem?_cons_succ] at a0 a1 a2 a3 a4 a5 a6 a7 a8 a9 a10
    clear hsr ho hon hb hkx hpre hbud hrd
    go_wp2_with fail
    refine HN.out.mono ?_
    rintro e w5 ⟨hp5, hk5, hk5'⟩
    obtain ⟨z0, z1, z3, Ac, mc, cc, rfl, hcc⟩ := hp5.call
    have HC5 := hide hcc
    have HB5 := hide (hk5.blk HBA.out hne (.inr (by decide)))
    have HK5 := hide (HKW.out.trans hk5)
    have HO5 := hide (show w5.ownsRow B 5 1 (.slice A9 n9 c9) n9 (bytesV out) from by
      by_cases h0 : out = []
      · have hA := HON.out h0
        obtain ⟨A', c', hv, _, _, hn⟩ := own_form HO.out
        injection hv with e1 e2 e3
        subst e1
        obtain ⟨hn0, hc0⟩ := hn hA
        subst hA
        rw [e3, hc0, hn0, h0]
        exact World.ownsRow_nil _ _ _ _
      · exact (hk5' h0).own HO.out HOP.out (.inl rfl))
    clear hp5 hcc hk5 hk5' HBA HKW HO HN a0 a1 a2 a3 a4 a5 a6 a7 a8 a9 a10
    go_upto_region 7 with fail
    generalize hW6 : World.alloc _ _ = W6
    have HX56 := hide (show Ext w5 W6 from by rw [← hW6]; ((repeat (first | with_reducible exact Ext.refl _ | with_reducible assumption | with_reducible refine Ext.alloc ?_ _ | with_reducible refine Ext.drew ?_ | with_reducible refine Ext.drewN ?_ _ | with_reducible refine Ext.setCell ?_ (by first | exact Nat.le_refl _ | assumption | (simp; done) | omega) _ | with_reducible refine Ext.trans ?_ (by with_reducible assumption))); done))
    have HBC := hide (show Blk W6 w5.heap.size 57 #[.int .i64 z0, .int .i64 z1, .int .i64 0, .int .i64 z3, .string ⟨#[]⟩, .string ⟨#[]⟩, .slice Ac mc cc] from by rw [← hW6]; exact Blk.new _ _ _)
    have HB6 := hide (HB5.out.ext HX56.out)
    have HC6 := hide (HC5.out.more HX56.out)
    have HK6 := hide (HK5.out.trans (.of HX56.out hp false))
    have HO6 := hide (HX56.out.own HO5.out)
    have hga : ha ≠ w5.heap.size := by have := HB5.out.lt; omega
    have hgc : wd.heap.size ≤ w5.heap.size := by have := HB5.out.lt; have := HGA.out; omega
    clear hW6 HX56 HC5 HB5 HK5 HO5
    generalize w5.heap.size = gc at *
    go_upto_if 23 with fail
    go_cut [13] (fun v wx => ∃ nn : Nat, v = .int .i64 (nn : Int) ∧ nn ≤ 1000 ∧ (nn = 0 → i < 300) ∧ (300 ≤ i → nn = 1000) ∧ W6 = wx)
    case first =>
      by_cases hid : i < nD
      · have hid' : (i : Int) < (nD : Int) := by omega
        obtain ⟨b2, off, rfl, hb2, hcd⟩ := HD.out.at1 (by omega)
        have hzl : i < zs.length := by have := HD.out.1; rw [intsV_length] at this; omega
        have q0 : W6.cell? ⟨b2, off + i, none⟩ = some (.int .i64 zs[i]) := by
          rw [HC6.out.ext.cell (hcd i hid)]
          simp [intsV]
        have hzb := HZ.out _ (List.getElem_mem hzl)
        have HR := hide (rest_any zs[i] 40 W6 hzb.1 hzb.2 (by omega) (by omega))
        have hlo := restZ_lo zs[i] 40 (by omega)
        have hhi := restZ_hi zs[i] 40 (by omega)
        generalize restZ zs[i] 40 = rz at *
        obtain ⟨nn, rfl⟩ := Int.eq_ofNat_of_zero_le hlo
        generalize zs[i] = zi at *
        go_wp2_with fail
        refine HR.out.mono ?_
        rintro e w7 ⟨rfl, rfl⟩
        go_wp2_with fail
        go_meet
        exact ⟨nn, rfl, by omega, fun _ => by omega, fun _ => by omega, rfl⟩
      · have hid' : ¬ ((i : Int) < (nD : Int)) := by omega
        have t1 : decide ((i : Int) < (nD : Int)) = false := decide_eq_false hid'
        go_wp2_with fail
        go_meet
        exact ⟨1000, rfl, by omega, fun h => by omega, fun _ => rfl, rfl⟩
    case rest =>
      obtain ⟨nn, rfl, hnn, hn0, hn3, rfl⟩ := hcut
      have f0 := HB6.out.frozen 0
      have f1 := HB6.out.frozen 1
      have f2 := HB6.out.frozen 2
      have f3 := HB6.out.frozen 3
      have f4 := HB6.out.frozen 4
      have f5 := HB6.out.frozen 5
      have f6 := HB6.out.frozen 6
      have f7 := HB6.out.frozen 7
      have f8 := HB6.out.frozen 8
      have f9 := HB6.out.frozen 9
      have f10 := HB6.out.frozen 10
      have k0 := HB6.out.cell 0
      have k1 := HB6.out.cell 1
      have k2 := HB6.out.cell 2
      have k3 := HB6.out.cell 3
      have k4 := HB6.out.cell 4
      have k5 := HB6.out.cell 5
      have k6 := HB6.out.cell 6
      have k7 := HB6.out.cell 7
      have k8 := HB6.out.cell 8
      have k9 := HB6.out.cell 9
      have k10 := HB6.out.cell 10
      simp only [List.getElem?_toArray, List.getElem?_cons_zero, List.getElem?_cons_succ] at k0 k1 k2 k3 k4 k5 k6 k7 k8 k9 k10
      have hwg : w0.heap.size ≤ ha := Nat.le_trans hx0.size HGA.out
      go_upto_region 12 with fail
      generalize hW7 : World.setCell _ _ _ = W7 at *
      have HK7 := hide (show KeepX ha true W6 W7 from by rw [← hW7]; exact KeepX.set11 ha W6 _ _ _ _ _ _ _ _ _ _ _)
      have HB7 := hide (show Blk W7 ha 55 #[.int .i64 0, .int .i64 0, .int .i64 0, .slice none 0 0, .slice none 0 0, .int .i64 0, .int .i64 0, .int .i64 0, .int .i64 0, .int .i64 0, .int .i64 0] from by rw [← hW7]; exact Blk.set11 HB6.out _ _ _ _ _ _ _ _ _ _ _)
      have HD7 := hide (HK7.out.blk HBC.out (Ne.symm hga) (.inl rfl))
      have HC7 := HC6.out.far HK7.out HB6.out ans_nob (by decide) hwg
      have HO7 := hide (HK7.out.own HO6.out (own_blk_ne HO6.out HB6.out (by decide)) (.inl rfl))
      have HX7 := hide (HK6.out.other HK7.out HGA.out)
      clear hW7 HK7 HB6 HBC HO6 HK6 HC6 f0 f1 f2 f3 f4 f5 f6 f7 f8 f9 f10 k0 k1 k2 k3 k4 k5 k6 k7 k8 k9 k10
      have n0 := HD7.out.cell 0
      have n1' := HD7.out.cell 1
      have n3 := HD7.out.cell 3
      have n6 := HD7.out.cell 6
      simp only [List.getElem?_toArray, List.getElem?_cons_zero, List.getElem?_cons_succ] at n0 n1' n3 n6
      have f0 := HB7.out.frozen 0
      have f1 := HB7.out.frozen 1
      have f3 := HB7.out.frozen 3
      have k0 : W7.cell? ⟨ha, 0, none⟩ = some (.int .i64 0) := HB7.out.cell 0
      have k1 : W7.cell? ⟨ha, 1, none⟩ = some (.int .i64 0) := HB7.out.cell 1
      have k3 : W7.cell? ⟨ha, 3, none⟩ = some (.slice none 0 0) := HB7.out.cell 3
      cases HC7 with
      | ends h0 h1 hx hw =>
        subst h0 h1
        have HXE := hide hx
        have HWW := hide hw
        clear hx hw
        go_upto_region 13 with fail
        go_quiet (fail)
        go_wp2_with fail
        go_ret3
        exact ⟨A9, n9, c9, rfl, by rw [← HWW.out]; exact own_mono (((Ext.refl W7).drewN nq).own HO7.out) HBD2.out, HXE.out.drewN nq, HX7.out.trans (.of ((Ext.refl W7).drewN nq) hp false)⟩
      | reads inp h0 h1 h3 ht hr hout hq =>
        subst h0 h1 h3 hq
        have HT := hide ht
        have HR := hide hr
        have HOU := hide hout
        have hrl := bytes_len (HSR.out W7 HX7.out ht.ext)
        clear ht hr hout
        by_cases hz0 : nn = 0
        · subst hz0
          have hi3 := hn0 rfl
          go_upto_region 23 with fail
          generalize hW8 : World.setCell _ _ _ = W8 at *
          have HK8 := hide (show KeepX ha true W7 W8 from by rw [← hW8]; exact KeepX.set ha true W7 0 _)
          have HB8 := hide (show Blk W8 ha 55 #[.int .i64 9, .int .i64 0, .int .i64 0, .slice none 0 0, .slice none 0 0, .int .i64 0, .int .i64 0, .int .i64 0, .int .i64 0, .int .i64 0, .int .i64 0] from by rw [← hW8]; exact HB7.out.set_ 0 _)
          have HT8 := hide (HT.out.far HK8.out HB7.out ans_nob (by decide) hwg)
          have HO8 := hide (HK8.out.own HO7.out (own_blk_ne HO7.out HB7.out (by decide)) (.inl rfl))
          clear hW8 n0 n1' n3 n6 f0 f1 f3 k0 k1 k3
          go_wp2_with fail
          go_roundw
          case rel => exact ⟨i + 1, rest, out, [], A2, n2, c2, A9, n9, c9, 9, 0, none, 0, 0, 1, B, rfl, rfl, by first | rfl | go_num, HSR.out, hn2, hc2, ⟨rfl, fun h => absurd h (by omega)⟩, HBD2.out, HO8.out, HON.out, HB8.out, HX7.out.other HK8.out HGA.out, .wait inp HT8.out rfl HR.out HOU.out rfl, by have := HBD.out; omega⟩
          case measure => simp [intOf]; omega
        · obtain ⟨r0, hr0⟩ : ∃ r0, min nn 32 = r0 := ⟨_, rfl⟩
          obtain ⟨r, hr⟩ : ∃ r, min r0 n2 = r := ⟨_, rfl⟩
          have t1 : ((nn : Int) == 0) = false := beq_eq_false_iff_ne.2 (by omega)
          have m0 : max (nn : Int) (0 : Int) = (nn : Int) := by omega
          have m1 : min (nn : Int) (32 : Int) = (r0 : Int) := by omega
          have m2 : min (r0 : Int) (n2 : Int) = (r : Int) := by omega
          have m3 : (r : Int) ≤ (n2 : Int) := by omega
          have m4 : (r : Int) ≤ (c2 : Int) := by omega
          have m5 : (0 : Int) ≤ (r : Int) := by omega
          have hr2 : r ≤ n2 := by omega
          have hmn : (Builtin.min_ #[3, 3, 3] 3 #[.int .i64 (nn : Int), .int .i64 (max 32 0), .int .i64 (n2 : Int)]).run Tryz.prog W7 = .ok (.int .i64 (r : Int)) W7 := by
            rw [run_min_int3]
            congr 2
            split <;> split <;> omega
          go_upto_region 18 with fail
          go_region_held3 (fun _ => True) (trivial) (fail)
          all_goals
            have HB8 := hide ((HB7.out.set_ 3 (.slice A2 r c2)).drew)
            have HK8 := hide ((KeepX.set ha true W7 3 (.slice A2 r c2)).trans (.of ((Ext.refl _).drew) ha true))
            generalize (W7.setCell ⟨ha, 3, none⟩ (.slice A2 r c2)).drew = W8 at *
            have HT8 := hide (HT.out.far HK8.out HB7.out ans_nob (by decide) hwg)
            have HO8 := hide (HK8.out.own HO7.out (own_blk_ne HO7.out HB7.out (by decide)) (.inl rfl))
            have HX8 := hide (HX7.out.other HK8.out HGA.out)
            have hrd8 := (HSR.out.take hr2) W8 HX8.out HT8.out.ext
            have HS8 := hide (HSR.out.cut (c := c2) hr2 hn2)
            clear n0 n1' n3 n6 f0 f1 f3 k0 k1 k3 hmn m0 m1 m2
            go_wp2_with fail
            go_roundw
            case rel => exact ⟨i + 1, rest.drop r, out, rest.take r, _, n2 - r, c2 - r, A9, n9, c9, 0, 0, A2, r, c2, (if 0 < r then 1 else 0), B, rfl, rfl, by first | rfl | go_num, HS8.out, by omega, by omega, hrd8, HBD2.out, HO8.out, HON.out, HB8.out, HX8.out, .given inp HT8.out rfl rfl (by rw [List.append_assoc, List.take_append_drop]; exact HR.out) (fun h => by
              have h2 : n2 = 0 := by omega
              have h3 : rest = [] := List.eq_nil_of_length_eq_zero (by omega)
              rw [h3]
              exact List.drop_nil) HOU.out (fun h => if_pos h), by
              have := HBD.out
              unfold leftN at this ⊢
              rw [List.length_drop, hrl]
              rw [hrl] at this
              split <;> omega⟩
            case measure => simp [intOf]; omega
      | writes inp o h0 h1 hm hmc hcm hrd ht hn hw =>
        subst h0 h1
        have HT := hide ht
        have HRD := hide hrd
        have HW := hide hw
        have hol : 0 < o.length := List.length_pos_iff.2 hn
        have hfl : out.length + o.length = (f I).length := by rw [← hw, List.length_append]
        clear ht hrd hw
        by_cases hz0 : nn = 0
        · subst hz0
          have hi3 := hn0 rfl
          go_upto_region 23 with fail
          generalize hW8 : World.setCell _ _ _ = W8 at *
          have HK8 := hide (show KeepX ha true W7 W8 from by rw [← hW8]; exact KeepX.set ha true W7 0 _)
          have HB8 := hide (show Blk W8 ha 55 #[.int .i64 9, .int .i64 0, .int .i64 0, .slice none 0 0, .slice none 0 0, .int .i64 0, .int .i64 0, .int .i64 0, .int .i64 0, .int .i64 0, .int .i64 0] from by rw [← hW8]; exact HB7.out.set_ 0 _)
          have HT8 := hide (HT.out.far HK8.out HB7.out ans_nob (by decide) hwg)
          have HO8 := hide (HK8.out.own HO7.out (own_blk_ne HO7.out HB7.out (by decide)) (.inl rfl))
          clear hW8 n0 n1' n3 n6 f0 f1 f3 k0 k1 k3
          go_wp2_with fail
          go_roundw
          case rel => exact ⟨i + 1, rest, out, [], A2, n2, c2, A9, n9, c9, 9, 0, none, 0, 0, q, B, rfl, rfl, by first | rfl | go_num, HSR.out, hn2, hc2, ⟨rfl, fun h => absurd h (by omega)⟩, HBD2.out, HO8.out, HON.out, HB8.out, HX7.out.other HK8.out HGA.out, .held inp o HT8.out rfl hn HW.out, by have := HBD.out; omega⟩
          case measure => simp [intOf]; omega
        · obtain ⟨r, hr⟩ : ∃ r, min nn mc = r := ⟨_, rfl⟩
          have t1 : ((nn : Int) == 0) = false := beq_eq_false_iff_ne.2 (by omega)
          have m2 : min (nn : Int) (mc : Int) = (r : Int) := by omega
          have m4 : (r : Int) ≤ (cc : Int) := by omega
          have m5 : (0 : Int) ≤ (r : Int) := by omega
          have hrm : r ≤ mc := by omega
          have hr0 : 0 < r := by omega
          have hrx : r = min nn (min o.length 32) := by omega
          have HRX := hide hrx
          have hn9 := bytes_len (Reads.of_own HO7.out)
          have HRT := hide (show Reads W7 W7.heap.size 1 Ac r (bytesV (o.take r)) from by
            have h1 := HRD.out.take hrm
            rw [bytesV_take, List.take_take, Nat.min_eq_left hrm] at h1
            exact h1)
          obtain ⟨B2, hB2, hB3, ho2, hg2⟩ := grow_any HT.out HO7.out HON.out HBD2.out hx0.size HX7.out.size
          have HO2 := hide ho2
          have HG2 := hide hg2
          have HNB := hide (own_blk_ne ho2 HB7.out (by decide)).symm
          obtain ⟨i0, hi0, hy0, hy1, hy2⟩ := info_parts byte_info
          have hr32 : r ≤ 32 := by omega
          have hro : r ≤ o.length := by omega
          clear ho2 hg2 HRD HT hm hr hrx
          go_upto_region 22 with (at_builtin; refine wpList_append_any _ rfl (.tmp 79) (.tmp 83) 22 rfl B2 5 i0 _ 1 1 Tryz.underlying22 hi0 hy0 hy1 hy2 rfl (by omega) (.slice A9 n9 c9) n9 (bytesV out) rfl HO2.out _ Ac r cc (bytesV (o.take r)) rfl HRT.out (bytesV_one _) (by simp only [maxLen]; omega) (by omega) hB3 ?_; intro A10 c10 w10 ho10 hg10 ha10)
          have HB10 := hide (HB7.out.grown hg10 HNB.out)
          have HT10 := hide (HG2.out w10 (out ++ o.take r) hg10)
          have HX10 := hide (HX7.out.trans (KeepX.grown HO2.out hg10))
          have HO10 := hide (show w10.ownsRow B2 5 1 (.slice A10 (n9 + r) c10) (n9 + r) (bytesV (out ++ o.take r)) from by rw [bytesV_append]; exact ho10)
          clear ho10 hg10 ha10 HB7 HG2 HX7 HO2 HRT HNB HO7 HD7 n0 n1' n3 n6 f0 f1 f3 k0 k1 k3 hi0 hy0 hy1 hy2
          have f1 := HB10.out.frozen 1
          have k1 : w10.cell? ⟨ha, 1, none⟩ = some (.int .i64 0) := HB10.out.cell 1
          go_upto_region 23 with fail
          generalize hW8 : World.setCell _ _ _ = W8 at *
          have HK8 := hide (show KeepX ha true w10 W8 from by rw [← hW8]; exact KeepX.set ha true w10 1 _)
          have HB8 := hide (show Blk W8 ha 55 #[.int .i64 0, .int .i64 (r : Int), .int .i64 0, .slice none 0 0, .slice none 0 0, .int .i64 0, .int .i64 0, .int .i64 0, .int .i64 0, .int .i64 0, .int .i64 0] from by rw [← hW8]; exact HB10.out.set_ 1 _)
          have HT8 := hide (HT10.out.far HK8.out HB10.out ans_nob (by decide) hwg)
          have HO8 := hide (HK8.out.own HO10.out (own_blk_ne HO10.out HB10.out (by decide)) (.inl rfl))
          have HX8 := hide (HX10.out.other HK8.out HGA.out)
          clear hW8 f1 k1 HB10 HT10 HX10 HO10
          go_wp2_with fail
          go_roundw
          case rel => exact ⟨i + 1, rest, out ++ o.take r, [], A2, n2, c2, A10, n9 + r, c10, 0, (r : Int), none, 0, 0, q, B2, rfl, rfl, by first | rfl | go_num, HSR.out, hn2, hc2, ⟨rfl, fun h => absurd h (by omega)⟩, hB2, HO8.out, (fun h => by
              have := congrArg List.length h
              simp only [List.length_append, List.length_take, List.length_nil] at this
              omega), HB8.out, HX8.out, .took inp o r HT8.out rfl rfl ⟨rfl, rfl, rfl⟩ (by omega) (by rw [List.append_assoc, List.take_append_drop]; exact HW.out), by
              have := HBD.out
              have := HRX.out
              unfold leftN at *
              rw [List.length_append, List.length_take]
              omega⟩
          case measure => simp [intOf]; omega
end Go.Proofs.YtjmonkacijncbaaGreatDoor

namespace Go.Proofs.YtjmonkacijncbaaGreatDoor
open Go.RowKit
set_option linter.unusedVariables false

/-- The bytes of a constant stay. -/
theorem hi_stays {w0 W : World} {hp : Nat} (hne : hp < W.heap.size) : Stays (W.alloc (.cells #[.int .u8 104, .int .u8 105] 5 (2, 3))) w0 hp (some ⟨W.heap.size, 0, none⟩) 2 [104, 105] := fun w' hk _ => by
  have hb : w'.heap[W.heap.size]? = (W.alloc (.cells #[.int .u8 104, .int .u8 105] 5 (2, 3))).heap[W.heap.size]? := hk.block W.heap.size (by simp) (by omega) (.inr fun cs hc => by
    unfold Blk at hc
    rw [heap_alloc_new] at hc
    simp at hc)
  have hlt : W.heap.size < w'.heap.size := Nat.lt_of_lt_of_le (by simp) hk.size
  refine ⟨rfl, fun _ => ⟨_, rfl, hlt, fun j u hu => ?_⟩⟩
  rw [add_lit, Nat.zero_add, cell_of_row _ W.heap.size j _ _ _ (hb.trans (heap_alloc_new W _))]
  simpa [bytesV] using hu
theorem take_ints {w : World} {B n : Nat} {A : Option Addr} {zs : List Int} (h : Reads w B 1 A n (intsV zs)) (k : Nat) : Reads w B 1 A (min n k) (intsV (zs.take k)) := by
  have h1 := h.take (Nat.min_le_left n k)
  have hl : zs.length = n := by have := h.1; rw [intsV_length] at this; omega
  have e : (intsV zs).take (min n k) = intsV (zs.take k) := by
    rw [intsV_take]
    congr 1
    rcases Nat.le_total n k with h2 | h2
    · rw [Nat.min_eq_left h2, List.take_of_length_le (by omega), List.take_of_length_le (by omega)]
    · rw [Nat.min_eq_right h2]
  rwa [e] at h1
/-- The start of any program that there is. -/
theorem start_any {nm : Bs} {L : List Bs} {f : Bs → Bs} {s : Bs → Int} (hd : DrvOk nm L f s) (I : Bs) (A : Option Addr) (n c B : Nat) (w : World) (hL : LibOk w) (hr : Reads w B 1 A n (strsV L)) (hB : B ≤ w.heap.size) (hnc : n ≤ c) (hn : n ≤ 1000000) :
    Calls Tryz.prog 21 #[.string (str nm), .slice A n c] w fun e w' => ∃ hp, e = .returned (.tuple #[.pointer (some ⟨hp, 0, none⟩), .int .i64 0]) ∧ (TAt w w' hp nm L 1 false 0 [] [] ∨ TAt w w' hp nm L (doingOf (f I)) false (s I) [] (f I)) := by
  rcases hd.kind with ⟨e1, e2⟩ | ⟨e1, hf, hs⟩
  · refine (start_plain hd.check e1 e2 A n c B w hL hr hB hnc hn).mono ?_
    rintro e w' ⟨hp, A', c', rfl, h⟩
    exact ⟨hp, rfl, .inl ⟨_, _, _, _, _, _, _, _, _, h⟩⟩
  · refine (start_early hd.mean hd.check e1 A n c B w hL hr hB hnc hn).mono ?_
    rintro e w' ⟨hp, A', c', Ao, mo, co, rfl, h⟩
    rw [← hf I, ← hs I] at h
    exact ⟨hp, rfl, .inr ⟨_, _, _, _, _, _, _, _, _, h⟩⟩
theorem TAt.ext' {w0 w : World} {hp : Nat} {nm : Bs} {L : List Bs} {d st : Int} {q : Bool} {inp out : Bs} (h : TAt w0 w hp nm L d q st inp out) : Ext w0 w := by
  obtain ⟨_, _, _, _, _, _, _, _, _, h⟩ := h
  exact h.ext
set_option maxHeartbeats 8000000 in
set_option maxRecDepth 100000 in
theorem driven_walk (x a b : Int) (s bs : Bs) (zs : List Int) (A0 AD : Option Addr) (n0 c0 nD cD : Nat) (w : World) (bx : -9223372036854775808 ≤ x ∧ x ≤ 9223372036854775807) (ba : -9223372036854775808 ≤ a ∧ a ≤ 9223372036854775807) (bb : -9223372036854775808 ≤ b ∧ b ≤ 9223372036854775807) (hs : (str s).size ≤ 9223372036854775807)
    (hr : Reads w w.heap.size 1 A0 n0 (bytesV bs)) (hnc : n0 ≤ c0) (hc : c0 ≤ maxLen) (hnil : A0 = none → n0 = 0 ∧ c0 = 0)
    (hrd : Reads w w.heap.size 1 AD nD (intsV zs)) (hncd : nD ≤ cD) (hcd : cD ≤ maxLen) (hz : ∀ x ∈ zs, -9223372036854775808 ≤ x ∧ x ≤ 9223372036854775807) (hL : LibOk w) :
    Calls Tryz.prog 6 #[.agg #[.int .i64 x, .int .i64 a, .int .i64 b, .string (str s)], .slice A0 n0 c0, .slice AD nD cD] w fun e w' => e = .returned (.bool true) ∧ Ext w w' := by
  have HX0 := hide ((Ext.refl w).alloc (.cells #[.int .i64 x, .int .i64 a, .int .i64 b, .string (str s)] 38))
  have HBX := hide (Blk.new w 38 #[.int .i64 x, .int .i64 a, .int .i64 b, .string (str s)])
  have HRG := hide (args_any x a b s (w.alloc (.cells #[.int .i64 x, .int .i64 a, .int .i64 b, .string (str s)] 38)) bx ba bb hs)
  have HLL := hide hL
  have HIR := hide (take_bytes hr 600)
  have HZR := hide (take_ints hrd 300)
  have HZB := hide (show ∀ x ∈ zs.take 300, -9223372036854775808 ≤ x ∧ x ≤ 9223372036854775807 from fun y hy => hz y (List.mem_of_mem_take hy))
  have hI : (bs.take 600).length ≤ 600 := by rw [List.length_take]; omega
  have HCUT := hide (fun W => show Calls Tryz.prog 9 #[.slice A0 n0 c0, .int .i64 600] W fun e w' => e = .returned (.slice A0 (min n0 600) c0) ∧ W = w' from cut_any A0 n0 c0 600 W hnc hc (by decide))
  obtain ⟨k, hk⟩ : ∃ k, min nD 300 = k := ⟨_, rfl⟩
  obtain ⟨m, hm⟩ : ∃ m, min n0 600 = m := ⟨_, rfl⟩
  rw [hm] at HIR HCUT
  rw [hk] at HZR
  have t1 : min (nD : Int) (300 : Int) = (k : Int) := by omega
  have t2 : (k : Int) ≤ (cD : Int) := by omega
  have t3 : (0 : Int) ≤ (k : Int) := by omega
  have hk3 : k ≤ 300 := by omega
  have hm6 : m ≤ 600 := by omega
  have hmc : m ≤ c0 := by omega
  have hn0 : A0 = none → c0 = 0 := fun h => (hnil h).2
  clear hL hr hrd hz hk hm hnil bx ba bb hs hnc hncd
  generalize bs.take 600 = I at *
  generalize zs.take 300 = Z at *
  generalize str s = S at *
  go_enter Tryz.func6, Tryz.ntmps6
  go_upto_region 1 with fail
  generalize w.alloc _ = W0 at *
  obtain ⟨g0, hg0⟩ : ∃ g0, w.heap.size = g0 := ⟨_, rfl⟩
  rw [hg0] at HBX ⊢
  clear hg0
  have b0 := HBX.out.cell 0
  have b1 := HBX.out.cell 1
  have b2 := HBX.out.cell 2
  have b3 := HBX.out.cell 3
  simp only [List.getElem?_toArray, List.getElem?_cons_zero, List.getElem?_cons_succ] at b0 b1 b2 b3
  go_wp2_with fail
  refine HRG.out.mono ?_
  rintro e w1 ⟨nm, L, A, n, c, rfl, hra, hanc, hac, har, hx1⟩
  obtain ⟨f, st, hd⟩ := drv_of hra
  have HD := hide hd
  have HAR := hide har
  have HX1 := hide (HX0.out.trans hx1)
  clear hd hra har hx1 HRG HX0 b0 b1 b2 b3 HBX
  generalize hN : str nm = N at *
  have HN := hide hN
  clear hN
  go_upto_region 2 with fail
  go_region_held3 (fun _ => True) (trivial)
    (first | (go_at_call 9; (with_reducible refine (HCUT.out _).mono ?_); rintro e w2 ⟨rfl, rfl⟩) | fail)
  all_goals
    have HX2 := hide (HX1.out.trans ((Ext.refl w1).drew))
    have HAR2 := hide (show Reads w1.drew w1.drew.heap.size 1 A n (strsV L) from HAR.out.drew)
    generalize w1.drew = W2 at *
    clear HX1 HAR HCUT t1 t2 t3
    have HI2 := hide ((HX2.out.reads HIR.out (Nat.le_refl _)).more HX2.out.size)
    have HMN := hide (HD.out.mean I W2 A n c W2.heap.size A0 m c0 W2.heap.size (HLL.out.ext HX2.out) HAR2.out (Nat.le_refl _) hanc HI2.out (Nat.le_refl _) hmc (by omega) hn0)
    rw [HN.out] at HMN
    go_wp2_with fail
    refine HMN.out.mono ?_
    rintro e w3 ⟨Aw, mw, cw, rfl, hwl, hwc, hwm, hwr, hwn, hx3⟩
    have HX3 := hide (HX2.out.trans hx3)
    have HL3 := hide (HLL.out.ext HX3.out)
    have HWR := hide hwr
    have HAR3 := hide ((hx3.reads HAR2.out (Nat.le_refl _)).more hx3.size)
    have HI3 := hide ((hx3.reads HI2.out (Nat.le_refl _)).more hx3.size)
    have HZ3 := hide ((HX3.out.reads HZR.out (Nat.le_refl _)).more HX3.out.size)
    have HST := hide (start_any HD.out I A n c w3.heap.size w3 HL3.out HAR3.out (Nat.le_refl _) hanc (by omega))
    rw [HN.out] at HST
    clear hwl hwc hwm hwr hwn hx3 HMN HX2 HAR2 HAR3 HI2 HIR HZR HN
    go_wp2_with fail
    refine HST.out.mono ?_
    rintro e w4 ⟨hp, rfl, hta⟩
    have hx34 : Ext w3 w4 := by rcases hta with h | h <;> exact h.ext'
    have HDR := hide (drive_any HD.out.mean HL3.out hI (HD.out.small I hI) hx34 A0 m c0 (fun w' _ hx' => (hx'.reads HI3.out (Nat.le_refl _)).more hx'.size) hmc hc hta AD k cD Z HZ3.out hk3 HZB.out)
    clear hta HST HI3 HZ3 HZB hx34
    go_wp2_with fail
    refine HDR.out.mono ?_
    rintro e w5 ⟨A9, n9, c9, rfl, ho5, hx5, -⟩
    have HX5 := hide (HX3.out.trans hx5)
    have HO5 := hide (Reads.of_own ho5)
    have HW5 := hide ((hx5.reads HWR.out (Nat.le_refl _)).more hx5.size)
    have hst := start_plain check_cat (by kernel_rfl) (by kernel_rfl) none 0 0 w5.heap.size w5 (HLL.out.ext HX5.out) Reads.none_ (Nat.le_refl _) (Nat.le_refl _) (by omega)
    rw [show str [99, 97, 116] = ⟨#[99, 97, 116]⟩ from rfl] at hst
    have HST := hide hst
    generalize hF : str (f I) = F
    clear ho5 hx5 HDR HWR HX3 HL3 hst
    go_wp2_with fail
    refine HST.out.mono ?_
    rintro e w6 ⟨hq, Aq, cq, rfl, h6⟩
    have HX6 := hide (h6.ext.alloc (.cells #[.int .u8 104, .int .u8 105] 5 (2, 3)))
    have HDR := hide (drive_any mean_cat (HLL.out.ext HX5.out) (I := [104, 105]) (by simp) (by simp) HX6.out (some ⟨w6.heap.size, 0, none⟩) 2 2 (hi_stays h6.box.lt) (Nat.le_refl _) (by simp [maxLen]) (.inl ⟨_, _, _, _, _, _, _, _, _, h6.more ((Ext.refl w6).alloc (.cells #[.int .u8 104, .int .u8 105] 5 (2, 3)))⟩) none 0 0 [] Reads.none_ (by omega) (by simp))
    have hkc := Lib.run_convert_bytes_const (P := Tryz.prog) w6 22 5 #[.int .u8 104, .int .u8 105] 2 2 Tryz.underlying22 Tryz.underlying5
    rw [show (#[Value.int .u8 104, .int .u8 105] : Array Value).size = 2 from rfl] at hkc
    clear h6 HST
    go_wp2_with fail
    refine HDR.out.mono ?_
    rintro e w7 ⟨A10, n10, c10, rfl, ho7, hx7, -⟩
    have hk1 := conv_str' (P := Tryz.prog) (w := w7) Tryz.underlying22 Tryz.underlying5 Tryz.underlying9 (Reads.of_own ho7) c10
    have hk2 := conv_str' (P := Tryz.prog) (w := w7) Tryz.underlying22 Tryz.underlying5 Tryz.underlying9 ((hx7.reads HO5.out (Nat.le_refl _)).more hx7.size) c9
    have hk3 := conv_str' (P := Tryz.prog) (w := w7) Tryz.underlying22 Tryz.underlying5 Tryz.underlying9 ((hx7.reads HW5.out (Nat.le_refl _)).more hx7.size) cw
    have HX7 := hide (HX5.out.trans hx7)
    rw [hF] at hk2 hk3
    rw [show str [104, 105] = ⟨#[104, 105]⟩ from rfl] at hk1
    clear ho7 hx7 HDR HX6 HX5 HO5 HW5 hF
    go_wp2_with fail
    go_ret
    exact ⟨rfl, HX7.out⟩
end Go.Proofs.YtjmonkacijncbaaGreatDoor

namespace Go.Proofs.YtjmonkacijncbaaGreatDoor.toolsDriven
open Go.ChangeShapes Go.WideShapes Go.ChangeAt Go.RowKit Go.Joins
set_option linter.unusedVariables false

theorem own : ownKnob Tryz.prog.godebug = none := by kernel_rfl
theorem laidOut : laidOutB Tryz.prog = true := by kernel_rfl

set_option maxRecDepth 100000 in
theorem lifted (os : Os) (started : os.Started) (H : Type) (enc : TypeId × Value → H) :
    ReturnsInHanded {} Tryz.checked os 6 .any (fun w args => (Rows.toolsDrivenSpec.pre enc Tryz.prog Tryz.f6 Rows.toolsDrivenRow.domain false w args ∧ laidMetH Tryz.prog Rows.toolsDrivenRow.laid w) ∧ sizedMet enc Tryz.prog Tryz.f6 (OpenSpec.ofChange Rows.toolsDrivenSpec) false w args) (Rows.toolsDrivenSpec.post enc Tryz.prog Tryz.f6 false true false false) := by
  refine handed_both (C := Tryz.checked) (X := fun w _ => laidMetH Tryz.prog Rows.toolsDrivenRow.laid w) (fun _ _ _ hh h => h.of_heap hh) own started (by kernel_rfl) Tryz.func6
    (ChangeSpec.witness_shaped (enc := enc) (C := Tryz.checked) (os := os) (X := fun w _ => laidMetH Tryz.prog Rows.toolsDrivenRow.laid w) false (World.laidAll Tryz.prog os Rows.toolsDrivenRow.laid) #[.agg #[.int .i64 0, .int .i64 0, .int .i64 0, .string ⟨#[]⟩], .slice none 0 0, .slice none 0 0] 8 (World.laidAll_os _ _ _)
      (World.shaped_of_ZipB (by kernel_rfl) (by kernel_rfl)) (by kernel_rfl) (by kernel_rfl) (by kernel_rfl)
      (by rw [MakeChecks.laidMetH_plain _ _ _ (by kernel_rfl)]; exact laidMet_laidAll _ (by kernel_rfl) (by kernel_rfl))) ?_
  intro W base args ds gs before hval0 hW hL hsh
  have hval : ∀ (j : Nat) t v, Tryz.f6.params[j]? = some t → args[j]? = some v → Value.okWide Tryz.prog W .any base t v := hval0
  have hW' := hW
  obtain ⟨p, q, hA0, hV, rfl, hfz, hnd⟩ := hW
  have hA : DataW.TrodAll enc Tryz.prog W 0 (fun _ => true) true Tryz.f6.params.toList args.toList ds p := hA0
  rw [Tryz.params6] at hA hval
  obtain ⟨v0, vs0, d0, ds0, p0, q0, hargs, rfl, rfl, h0, r0⟩ := trodAll_cons hA
  obtain ⟨v1, vs1, d1, ds1, p1, q1, rfl, rfl, rfl, h1, r1⟩ := trodAll_cons r0
  obtain ⟨v2, vs2, d2, ds2, p2, q2, rfl, rfl, rfl, h2, r2⟩ := trodAll_cons r1
  obtain ⟨rfl, rfl, rfl⟩ := trodAll_nil r2
  obtain rfl : args = #[v0, v1, v2] := by cases args; simp_all
  obtain ⟨rfl, rfl⟩ := trodVars_none hV
  have k0 := h0
  have lt0 : ∀ x ∈ p0, x.block < W.heap.size := by obtain ⟨m, hm⟩ := k0; exact DataW.trod_lt m _ _ _ hm
  have k1 := h1
  have lt1 : ∀ x ∈ p1, x.block < W.heap.size := by obtain ⟨m, hm⟩ := k1; exact DataW.trod_lt m _ _ _ hm
  have k2 := h2
  have lt2 : ∀ x ∈ p2, x.block < W.heap.size := by obtain ⟨m, hm⟩ := k2; exact DataW.trod_lt m _ _ _ hm
  obtain ⟨x, a, b, s, rfl, bx, ba, bb, hs⟩ := open_run (hval 0 38 v0 rfl rfl) h0
  obtain ⟨a1, len1, cap1, rfl⟩ := okWide_slice Tryz.underlying22 (hval 1 22 v1 rfl rfl)
  obtain ⟨fuel1, hf1⟩ := h1
  obtain ⟨A1, n1, c1, bs1, e1, hn1, hc1, hr1, hnil1⟩ := open_bytes Tryz.underlying22 Tryz.underlying5 (by kernel_rfl) hf1
  obtain ⟨a2, len2, cap2, rfl⟩ := okWide_slice Tryz.underlying39 (hval 2 39 v2 rfl rfl)
  obtain ⟨fuel2, hf2⟩ := h2
  obtain ⟨A2, n2, c2, zs2, e2, hn2, hc2, hr2, hz2⟩ := open_intsV Tryz.underlying39 Tryz.underlying3 (by kernel_rfl) hf2
  rw [e1, e2]
  clear hA0 hval0
  have hL3 := hL
  rw [MakeChecks.laidMetH_plain _ _ _ (by kernel_rfl)] at hL3
  have hlib : LibOk W := lib_ok hL3 hsh
  refine (driven_walk x a b s bs1 zs2 A1 A2 n1 c1 n2 c2 W bx ba bb hs hr1 hn1 hc1 hnil1 hr2 hn2 hc2 hz2 hlib).mono fun e W' ⟨he, hx⟩ => ?_
  subst he
  have bel := hx.below
  rw [← e1, ← e2]
  exact ⟨_, rfl, _, _, _, [], _, [], hW', trodAll_mk1 (shut_bool Tryz.underlying4 _), (trodAll_cons_mk (Below.trod laidOut (by kernel_rfl) (of_decide_eq_true (by kernel_rfl)) k0 bel lt0) (trodAll_cons_mk (Below.trod laidOut (by kernel_rfl) (of_decide_eq_true (by kernel_rfl)) k1 bel lt1) (trodAll_cons_mk (Below.trod laidOut (by kernel_rfl) (of_decide_eq_true (by kernel_rfl)) k2 bel lt2) trodAll_mk0))), rfl, bel.frame _, fun h => by cases h⟩

theorem holds : Rows.ToolsDrivenSaid :=
  OpenClaim.holds_of_wide 6 Tryz.f6 rfl rfl rfl rfl rfl rfl rfl ⟨rfl, rfl, rfl, rfl, rfl⟩ rfl rfl rfl rfl rfl (by kernel_rfl) Tryz.func6 (by kernel_rfl)
    (of_decide_eq_true (by kernel_rfl)) (by unfold Func.isWrapper; first | (rw [if_pos (by decide +kernel)]; kernel_rfl) | (rw [if_neg (by decide +kernel)]; exact ⟨rfl, rfl⟩))
    (fun os started H enc _ => lifted os started H enc)

theorem proved : Rows.ToolsDrivenCardSaid :=
  Claim7.holds_tied_plain_at .later [] [.data, .data, .data, .data, .sentinel, .sentinel, .sentinel, .pinned] true (true, "855252b59153360e6ca8a6a52700d9faa9b94044a18c9979b5a3cc1dd5a02ed0") true holds (fun _ h => by cases h) (by kernel_rfl) (fun _ h => by cases h) toolsDriven_row_tie rfl ⟨rfl, rfl⟩ (by kernel_rfl) rfl
    (fun f fn hf hfn => by
      obtain rfl : f = 6 := Option.some.inj ((show Tryz.prog.funcNamed "ringhall/ringkeep4.ToolsDriven" = some 6 by kernel_rfl).symm.trans hf) |>.symm
      obtain rfl : fn = Tryz.f6 := (Option.some.inj (Tryz.func6.symm.trans hfn)).symm
      exact ⟨by kernel_rfl, fun j t ht => by
        rw [Tryz.params6] at ht
        have hm : t ∈ [38, 22, 39] := by simpa using Array.mem_of_getElem? ht
        have hall : ([38, 22, 39].all fun u => !Tryz.prog.wantsStandIn u) = true := by kernel_rfl
        exact (show Tryz.prog.wantsStandIn t = false by simpa using List.all_eq_true.1 hall t hm)⟩)
    (by kernel_rfl)
#print axioms proved
end Go.Proofs.YtjmonkacijncbaaGreatDoor.toolsDriven
