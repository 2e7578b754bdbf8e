/- Parts of programs in memory; the contract of their size. -/
import Derived.Test.YtljlniehbenefaaObName
import Derived.Test.YtljlniehbenefaaFlat
import Derived.Deep.DeepCutAuto
import Derived.Deep.CutBlock
namespace Go.Proofs.Ytljlniehbenefaa
open Go.RowKit
set_option linter.unusedVariables false

def codeV (l : List Nat) : List Value := l.map fun (x : Nat) => Value.int .u32 (x : Int)
theorem codeV_len (l : List Nat) : (codeV l).length = l.length := by simp [codeV]
theorem codeV_one (l : List Nat) : ∀ u ∈ codeV l, u.oneCell' = true := by
  intro u hu
  obtain ⟨x, _, rfl⟩ := List.mem_map.1 hu
  rfl
def nmC (n : NmD) : List Value := [.string (str n.name), .int .i64 n.wh, .int .i64 n.pos, .bool n.weak]
theorem nmC_len (n : NmD) : (nmC n).length = 4 := rfl
theorem nmC_one (l : List NmD) : ∀ u ∈ l.flatMap nmC, u.oneCell' = true := by
  intro u hu
  obtain ⟨n, _, hn⟩ := List.mem_flatMap.1 hu
  simp only [nmC, List.mem_cons, List.not_mem_nil, or_false] at hn
  rcases hn with rfl | rfl | rfl | rfl <;> rfl
def neC (n : NeD) : List Value := [.int .i64 n.pos, .string (str n.name), .int .i64 n.kind]
theorem neC_len (n : NeD) : (neC n).length = 3 := rfl
theorem neC_one (l : List NeD) : ∀ u ∈ l.flatMap neC, u.oneCell' = true := by
  intro u hu
  obtain ⟨n, _, hn⟩ := List.mem_flatMap.1 hu
  simp only [neC, List.mem_cons, List.not_mem_nil, or_false] at hn
  rcases hn with rfl | rfl | rfl <;> rfl
abbrev obT : TypeId := 28
abbrev nmT : TypeId := 30
abbrev neT : TypeId := 59
/-- The four slices of a part. -/
structure ObV where
  A1 : Option Addr
  n1 : Nat
  c1 : Nat
  A2 : Option Addr
  n2 : Nat
  c2 : Nat
  A3 : Option Addr
  n3 : Nat
  c3 : Nat
  A4 : Option Addr
  n4 : Nat
  c4 : Nat
def ObV.cells (v : ObV) : Array Value := #[.slice v.A1 v.n1 v.c1, .slice v.A2 v.n2 v.c2, .slice v.A3 v.n3 v.c3, .slice v.A4 v.n4 v.c4]
/-- Numbers of a part are such as ints may be, and it is not too long. -/
structure ObSm (o : ObD) : Prop where
  code : o.code.length ≤ 100000
  data : o.data.length ≤ 100000
  nms : o.names.length ≤ 100000
  nds : o.needs.length ≤ 100000
  word : ∀ x ∈ o.code, x < 4294967296
  nm : ∀ n ∈ o.names, n.name.length ≤ 1000 ∧ (-1000000 ≤ n.pos ∧ n.pos ≤ 1000000) ∧ -1000000 ≤ n.wh ∧ n.wh ≤ 1000000
  ne : ∀ n ∈ o.needs, n.name.length ≤ 1000 ∧ (-1000000 ≤ n.pos ∧ n.pos ≤ 1000000) ∧ -1000000 ≤ n.kind ∧ n.kind ≤ 1000000
/-- A part that can be read. -/
structure ObRd (w : World) (o : ObD) (v : ObV) : Prop where
  code : Reads w w.heap.size 1 v.A1 v.n1 (codeV o.code)
  data : Reads w w.heap.size 1 v.A2 v.n2 (bytesV o.data)
  names : Reads w w.heap.size 4 v.A3 v.n3 (o.names.flatMap nmC)
  needs : Reads w w.heap.size 3 v.A4 v.n4 (o.needs.flatMap neC)
  l1 : o.code.length = v.n1
  l2 : o.data.length = v.n2
  l3 : o.names.length = v.n3
  l4 : o.needs.length = v.n4
theorem ObRd.ext {w w' : World} {o : ObD} {v : ObV} (h : ObRd w o v) (hx : Ext w w') : ObRd w' o v :=
  ⟨(hx.reads h.code (Nat.le_refl _)).more hx.size, (hx.reads h.data (Nat.le_refl _)).more hx.size, (hx.reads h.names (Nat.le_refl _)).more hx.size, (hx.reads h.needs (Nat.le_refl _)).more hx.size, h.l1, h.l2, h.l3, h.l4⟩
set_option maxHeartbeats 4000000 in
set_option maxRecDepth 100000 in
theorem size_any (o : ObD) (v : ObV) (gb : Nat) (wh : Int) (w : World) (hb : Blk w gb obT v.cells) (l1 : o.code.length = v.n1) (l2 : o.data.length = v.n2) (h1 : v.n1 ≤ 100000) (h2 : v.n2 ≤ 100000) :
    Calls Try.prog 19 #[.pointer (some ⟨gb, 0, none⟩), .int .i64 wh] w fun e w' => e = .returned (.int .i64 (sizeW o wh)) ∧ w = w' := by
  obtain ⟨A1, n1, c1, A2, n2, c2, A3, n3, c3, A4, n4, c4⟩ := v
  dsimp only at l1 l2 h1 h2
  have HS := hide (show sizeW o wh = if wh = 1 then 4 * (o.code.length : Int) else if wh = 2 then (o.data.length : Int) else -1 from rfl)
  rw [l1, l2] at HS
  have b0 : w.cell? ⟨gb, 0, none⟩ = some (.slice A1 n1 c1) := hb.cell 0
  have b1 : w.cell? ⟨gb, 1, none⟩ = some (.slice A2 n2 c2) := hb.cell 1
  generalize sizeW o wh = z at *
  clear l1 l2 hb
  by_cases hw1 : wh = 1
  · have HE := hide (show z = 4 * (n1 : Int) by rw [HS.out, if_pos hw1])
    subst hw1
    go_enter Try.func19, Try.ntmps19
    go_wp2_with fail
    go_ret
    exact ⟨by rw [HE.out]; first | done | rfl, rfl⟩
  · have t1 : (wh == 1) = false := by simpa using hw1
    by_cases hw2 : wh = 2
    · have HE := hide (show z = (n2 : Int) by rw [HS.out, if_neg hw1, if_pos hw2])
      subst hw2
      go_enter Try.func19, Try.ntmps19
      go_wp2_with fail
      go_ret
      exact ⟨by rw [HE.out]; first | done | rfl, rfl⟩
    · have t2 : (wh == 2) = false := by simpa using hw2
      have HE := hide (show z = -1 by rw [HS.out, if_neg hw1, if_neg hw2])
      clear hw1 hw2
      go_enter Try.func19, Try.ntmps19
      go_wp2_with fail
      go_ret
      exact ⟨by rw [HE.out]; first | done | rfl, rfl⟩
end Go.Proofs.Ytljlniehbenefaa
