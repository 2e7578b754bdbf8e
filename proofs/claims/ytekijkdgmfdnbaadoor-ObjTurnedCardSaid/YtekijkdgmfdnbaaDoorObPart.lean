/- Raw parts as arguments; the contracts of object, Encode and Decode for parts that may be. -/
import Derived.Test.YtekijkdgmfdnbaaDoorObDec
import Derived.Test.YtekijkdgmfdnbaaDoorObObj
import Derived.Test.YtekijkdgmfdnbaaDoorObEq
namespace Go.Proofs.YtekijkdgmfdnbaaDoor
open Go.RowKit
set_option linter.unusedVariables false

abbrev paT : TypeId := 26
/-- A raw part that can be read. -/
structure PartRd (w : World) (v : ObV) (code : List Nat) (data : Bs) (nms nds : List Int) : Prop where
  r1 : Reads w w.heap.size 1 v.A1 v.n1 (codeV code)
  r2 : Reads w w.heap.size 1 v.A2 v.n2 (bytesV data)
  r3 : Reads w w.heap.size 1 v.A3 v.n3 (intsV nms)
  r4 : Reads w w.heap.size 1 v.A4 v.n4 (intsV nds)
  c1 : v.n1 ≤ v.c1 ∧ v.c1 ≤ maxLen ∧ (v.A1 = none → v.n1 = 0)
  c2 : v.n2 ≤ v.c2 ∧ v.c2 ≤ maxLen ∧ (v.A2 = none → v.n2 = 0)
  c3 : v.n3 ≤ maxLen
  c4 : v.n4 ≤ maxLen
  word : ∀ x ∈ code, x < 4294967296
  z3 : ∀ z ∈ nms, -9223372036854775808 ≤ z ∧ z ≤ 9223372036854775807
  z4 : ∀ z ∈ nds, -9223372036854775808 ≤ z ∧ z ≤ 9223372036854775807
theorem PartRd.ext {w w' : World} {v : ObV} {code : List Nat} {data : Bs} {nms nds : List Int} (h : PartRd w v code data nms nds) (hx : Ext w w') : PartRd w' v code data nms nds :=
  ⟨(hx.reads h.r1 (Nat.le_refl _)).more hx.size, (hx.reads h.r2 (Nat.le_refl _)).more hx.size, (hx.reads h.r3 (Nat.le_refl _)).more hx.size, (hx.reads h.r4 (Nat.le_refl _)).more hx.size, h.c1, h.c2, h.c3, h.c4, h.word, h.z3, h.z4⟩
theorem object_ok {w : World} {v : ObV} {code : List Nat} {data : Bs} {nms nds : List Int} (h : PartRd w v code data nms nds) :
    Calls Tryd.prog 7 #[.agg v.cells] w fun e w' => ∃ v' : ObV, e = .returned (.agg v'.cells) ∧ ObOwn w' w.heap.size (objR code data nms nds) v' ∧ Ext w w' :=
  object_any code data nms nds v.A1 v.n1 v.c1 v.A2 v.n2 v.c2 v.A3 v.n3 v.c3 v.A4 v.n4 v.c4 w h.r1 h.c1.1 h.c1.2.1 h.c1.2.2 h.r2 h.c2.1 h.c2.2.1 h.c2.2.2 h.r3 h.c3 h.z3 h.r4 h.c4 h.z4
theorem chk_sm {o : ObD} (h : ChkOk o) (hc : ∀ x ∈ o.code, x < 4294967296) : ObSm o := by
  refine ⟨Nat.le_trans h.code (by omega), Nat.le_trans h.data (by omega), Nat.le_trans h.nms (by omega), Nat.le_trans h.nds (by omega), hc, fun n hn => ?_, fun n hn => ?_⟩
  · have h1 := nameB_len (h.names n hn).1
    have h2 := nm_ok_bounds h hn
    have h3 := (h.names n hn).2.2.1
    have h4 := sizeW_lt h n.wh
    omega
  · have h1 := nameB_len (h.needs n hn).1
    obtain ⟨-, h2, h3, h4, h5, -⟩ := h.needs n hn
    have h6 := h.code
    omega
theorem objR_word {code : List Nat} (h : ∀ x ∈ code, x < 4294967296) (data : Bs) (nms nds : List Int) : ∀ x ∈ (objR code data nms nds).code, x < 4294967296 := fun x hx => h x (List.mem_of_mem_take hx)
theorem encode_ok {o : ObD} {v : ObV} {w : World} (h : ChkOk o) (hs : ObSm o) (hr : ObRd w o v) :
    Calls Tryd.prog 6 #[.agg v.cells] w fun e w' => ∃ A n c, e = .returned (.tuple #[.slice A n c, .int .i64 0]) ∧ n = (encL o).length ∧ w'.ownsRow w.heap.size 5 1 (.slice A n c) n (bytesV (encL o)) ∧ Ext w w' :=
  (encode_any o v w hr hs).mono (by
    rintro e w' ⟨hx, ⟨-, A, n, c, rfl, ho⟩ | ⟨hno, -⟩⟩
    · exact ⟨A, n, c, rfl, by have := ho.1; rw [bytesV_length] at this; omega, ho, hx⟩
    · exact absurd h hno)
theorem nils_agg : (Value.agg #[.slice none 0 0, .slice none 0 0, .slice none 0 0, .slice none 0 0]) = .agg (ObV.cells ⟨none, 0, 0, none, 0, 0, none, 0, 0, none, 0, 0⟩) := rfl
theorem decode_back {o : ObD} {w : World} {A : Option Addr} {n c : Nat} (h : ChkOk o) (hs : ObSm o) (hr : Reads w w.heap.size 1 A n (bytesV (encL o))) (hnc : n ≤ c) (hcm : c ≤ maxLen) :
    Calls Tryd.prog 8 #[.slice A n c] w fun e w' => ∃ v, e = .returned (.tuple #[.agg (ObV.cells v), .int .i64 0]) ∧ ObOwn w' w.heap.size o v ∧ Ext w w' :=
  (decode_any (encL o) A n c w hr hnc hcm).mono (by
    rintro e w' ⟨hx, ⟨z, hd, -⟩ | ⟨o', v, hd, -, rfl, ho⟩⟩
    · cases (dec_back o h hs.word hd).1
    · have := (dec_back o h hs.word hd).1
      injection this with this
      subst this
      exact ⟨v, rfl, ho, hx⟩)
theorem decode_torn {o : ObD} {w : World} {A : Option Addr} {n c k : Nat} (h : ChkOk o) (hs : ObSm o) (hk : k < (encL o).length) (hr : Reads w w.heap.size 1 A n (bytesV ((encL o).take k))) (hnc : n ≤ c) (hcm : c ≤ maxLen) :
    Calls Tryd.prog 8 #[.slice A n c] w fun e w' => ∃ z, (z = 21 ∨ z = 3) ∧ e = .returned (.tuple #[.agg #[.slice none 0 0, .slice none 0 0, .slice none 0 0, .slice none 0 0], .int .i64 z]) ∧ Ext w w' :=
  (decode_any _ A n c w hr hnc hcm).mono (by
    rintro e w' ⟨hx, ⟨z, hd, rfl⟩ | ⟨o', v, hd, -, -, -⟩⟩
    · exact ⟨z, dec_torn o h hs.word k hk hd, rfl, hx⟩
    · rcases dec_torn o h hs.word k hk hd with h | h <;> cases h)
theorem decode_more {o : ObD} {w : World} {A : Option Addr} {n c : Nat} (h : ChkOk o) (hs : ObSm o) (x : UInt8) (hr : Reads w w.heap.size 1 A n (bytesV (encL o ++ [x]))) (hnc : n ≤ c) (hcm : c ≤ maxLen) :
    Calls Tryd.prog 8 #[.slice A n c] w fun e w' => e = .returned (.tuple #[.agg #[.slice none 0 0, .slice none 0 0, .slice none 0 0, .slice none 0 0], .int .i64 3]) ∧ Ext w w' :=
  (decode_any _ A n c w hr hnc hcm).mono (by
    rintro e w' ⟨hx, ⟨z, hd, rfl⟩ | ⟨o', v, hd, -, -, -⟩⟩
    · exact ⟨by rw [dec_more o h hs.word x hd], hx⟩
    · have := dec_more o h hs.word x hd
      cases this)
end Go.Proofs.YtekijkdgmfdnbaaDoor
