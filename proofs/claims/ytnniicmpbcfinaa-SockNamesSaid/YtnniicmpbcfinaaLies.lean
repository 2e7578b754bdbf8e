/- Bytes that lie in blocks from some block on; a literal's bytes; append behind a literal. Plain theorems. -/
import Derived.Test.YtnniicmpbcfinaaRows
import Derived.Test.YtnniicmpbcfinaaMem
import Derived.WalkKit
import Derived.Lib.SlBytesConst
namespace Go.Proofs.Ytnniicmpbcfinaa
open Go.RowKit
set_option linter.unusedVariables false

/-- A slice's cells, and that they lie in blocks from lo on. -/
def Lies (w : World) (lo : Nat) (A : Option Addr) (n : Nat) (xs : List Value) : Prop :=
  xs.length = n ∧ (0 < n → ∃ ad, A = some ad ∧ lo ≤ ad.block ∧ ad.block < w.heap.size ∧ ∀ j u, xs[j]? = some u → w.cell? (ad.add j) = some u)
theorem Lies.reads {w : World} {lo n : Nat} {A : Option Addr} {xs : List Value} (h : Lies w lo A n xs) : Reads w w.heap.size 1 A n xs :=
  ⟨by have := h.1; omega, fun hn => by obtain ⟨ad, e, _, h2, h3⟩ := h.2 hn; exact ⟨ad, e, h2, h3⟩⟩
theorem Lies.keepAll {w w' : World} {lo n : Nat} {A : Option Addr} {xs : List Value} (h : Lies w lo A n xs) (hs : w.heap.size ≤ w'.heap.size) (hk : ∀ k, lo ≤ k → k < w.heap.size → w'.heap[k]? = w.heap[k]?) : Lies w' lo A n xs :=
  ⟨h.1, fun hn => by
    obtain ⟨ad, e, h1, h2, h3⟩ := h.2 hn
    exact ⟨ad, e, h1, Nat.lt_of_lt_of_le h2 hs, fun j u hu => (World.cell?_of_block (by rw [add_block]; exact hk _ h1 h2)).trans (h3 j u hu)⟩⟩
theorem Lies.ext {w w' : World} {lo n : Nat} {A : Option Addr} {xs : List Value} (h : Lies w lo A n xs) (hx : Ext w w') : Lies w' lo A n xs := h.keepAll hx.size (fun k _ hk => hx.block k hk)
theorem Lies.less {w : World} {lo lo' n : Nat} {A : Option Addr} {xs : List Value} (h : Lies w lo A n xs) (hl : lo' ≤ lo) : Lies w lo' A n xs :=
  ⟨h.1, fun hn => by
    obtain ⟨ad, e, h1, h2, h3⟩ := h.2 hn
    exact ⟨ad, e, by omega, h2, h3⟩⟩
theorem Lies.far {w : World} {lo n : Nat} {A : Option Addr} {xs : List Value} (h : Lies w lo A n xs) (hn : 0 < n) {v : Value} (hv : ∀ k, v.ownBlock = some k → w.heap.size ≤ k) : ∀ k, v.ownBlock = some k → ∀ ad, A = some ad → ad.block ≠ k := by
  intro k hk ad hA e
  obtain ⟨ad', e', _, h2, _⟩ := h.2 hn
  rw [hA] at e'
  injection e' with e'
  subst e'
  have := hv k hk
  omega
theorem lies_own {w : World} {base lo n c : Nat} {A : Option Addr} {xs : List Value} (h : w.ownsRow base 5 1 (.slice A n c) n xs) (hlo : lo ≤ base) : Lies w lo A n xs := by
  have hr := Reads.of_own h
  refine ⟨by have := hr.1; omega, fun hn => ?_⟩
  obtain ⟨ad, e, h2, h3⟩ := hr.2 hn
  subst e
  have := (h.lt ad.block rfl).1
  exact ⟨ad, rfl, by omega, h2, h3⟩

section
variable {P : Program} (w : World)
theorem wpList_append_lies {ops : Array Oper} {rest : List Oper} {o : Oper} {a : Act} {Q : Exit → Act → World → Prop} (hgd : o.guard = none) (s x : Operand) (t : TypeId)
    (ho : o.op = .call { callee := .builtin .append, args := #[s, x], argTypes := #[t, t] })
    (i : TypeInfo) (z : Value) (ht : P.underlying t = some (.slice 5)) (hi : P.info? 5 = some i) (hz : i.zero = some z)
    (hsize : i.size = 1) (hby : i.bytes = 1) (hzs : z.cells.size = 1)
    (lo : Nat) (ao : Addr) (n : Nat) (olds : List Value) (hs : a.eval s = .slice (some ao) n n) (hro : Lies w lo (some ao) n olds) (hlo : lo ≤ w.heap.size) (hn : 0 < n)
    (B : Nat) (A : Option Addr) (m c : Nat) (news : List Value) (hx : a.eval x = .slice A m c) (hr : Reads w B 1 A m news) (h1 : ∀ u ∈ news, u.oneCell' = true)
    (h63 : n + m ≤ maxLen) (hbytes : (n + m) * 1 ≤ 140737488355328)
    (h : ∀ A' c' w', Lies w' lo A' (n + m) (olds ++ news) → n + m ≤ c' → Ext w w' → wpList P ops Q rest (a.put o.dst (.slice A' (n + m) c')) w') : wpList P ops Q (o :: rest) a w := by
  refine wpList_plain hgd fun _ hK => ?_
  rcases Nat.eq_zero_or_pos m with h0 | h0
  · subst h0
    have hnil : news = [] := List.eq_nil_of_length_eq_zero (by simpa using hr.1)
    subst hnil
    have hrun : (Builtin.append_ #[t, t] o.type #[.slice (some ao) n n, .slice A 0 c]).run P w = .ok (.slice (some ao) n n) w := by
      cases A <;> simp [Builtin.append_, run_underlying ht, sizeOf, typeInfo, hi, Builtin.lenOf, Builtin.firstCells, storeCells, loadCells, loadCellsFrom]
    unfold Oper.wp execOp
    simp only [ho, resolve, invoke, builtin, Sem.run_bind, Sem.run_pure, Result.andThen_ok, List.map_toArray, List.map_cons, List.map_nil, hs, hx, hrun]
    have := h (some ao) n w (by simpa using hro) (by omega) (Ext.refl w)
    rw [Nat.add_zero] at this
    exact hK _ _ this
  · exact wp_append_new w s x t ho 5 i z 1 1 ht hi hz hsize hby hzs (by omega) w.heap.size (some ao) n n olds hs (fun e => by cases e) hro.reads B A m c news hx hr h1 (by omega) h0 h63 hbytes fun A' c' w' h2 h3 => hK _ _ (h A' c' w' (lies_own h2 hlo) (own_le h2).1 h3)
end

theorem reads_lit (w : World) (bs : List UInt8) (e : TypeId) (fr : Nat × Nat) : Reads (w.alloc (.cells (bytesV bs).toArray e fr)) (w.heap.size + 1) 1 (some ⟨w.heap.size, 0, none⟩) bs.length (bytesV bs) := by
  refine ⟨by rw [bytesV_length]; omega, fun _ => ⟨_, rfl, Nat.lt_succ_self _, fun j u hu => ?_⟩⟩
  rw [add_lit, World.cell?_alloc_mark]
  simpa using hu
theorem lies_lit (w : World) (b : UInt8) (fr : Nat × Nat) : Lies (w.alloc (.cells #[.int .u8 (b.toNat : Int)] 5 fr)) w.heap.size (some ⟨w.heap.size, 0, none⟩) 1 (bytesV [b]) := by
  have hh := reads_lit w [b] 5 fr
  refine ⟨rfl, fun _ => ?_⟩
  obtain ⟨ad, e, q1, q2⟩ := hh.2 (by simp)
  injection e with e
  subst e
  exact ⟨_, rfl, Nat.le_refl _, by simp, q2⟩
end Go.Proofs.Ytnniicmpbcfinaa
