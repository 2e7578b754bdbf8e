/- Two pipes of one table: what is done to one leaves the other; bytes laid behind a constant's. -/
import Derived.Test.YtoicpnpahjmegaaPipeLess
namespace Go.Proofs.Ytoicpnpahjmegaa
open Go.RowKit
set_option linter.unusedVariables false

theorem St.ne {w0 : World} {gp : Nat} {all : Array Value} {i g : Nat} {r s : Int} {v : Value} {bs : List UInt8} {w : World} (h : St w0 gp all i g r s v bs w) : gp ≠ g := by
  intro e
  have h1 := h.blk
  have h2 := h.one
  subst e
  simp only [Blk] at h1 h2
  rw [h1] at h2
  simp at h2
theorem St.old {w0 : World} {gp : Nat} {all : Array Value} {i g : Nat} {r s : Int} {v : Value} {bs : List UInt8} {w : World} (h : St w0 gp all i g r s v bs w) : ∀ k, v.ownBlock = some k → w0.heap.size ≤ k := fun k hk => (h.own.lt k hk).1

/-- Another pipe's operation leaves this one as it is. -/
theorem St.other {w0 : World} {gp : Nat} {all : Array Value} {i g : Nat} {r s : Int} {v : Value} {bs : List UInt8} {w w' : World} (h : St w0 gp all i g r s v bs w) {g' : Nat} {v' : Value} (hk : Kept g' v' w w')
    (hg : g ≠ g') (hgp : gp ≠ g') (h1 : some g ≠ v'.ownBlock) (h2 : some gp ≠ v'.ownBlock) (h3 : ∀ k, v.ownBlock = some k → k ≠ g' ∧ v'.ownBlock ≠ some k) (hb : w0.heap.size ≤ g') (hv : ∀ k, v'.ownBlock = some k → w0.heap.size ≤ k) : St w0 gp all i g r s v bs w' :=
  ⟨hk.blk h.blk hgp h2, h.hi, h.hp, h.gpb, h.gb, hk.ext h.ext hb hv, hk.blk h.one hg h1, own_of_keep h.own (fun k hkk => hk.block k (h.own.lt k hkk).2 (h3 k hkk).1 (fun e => (h3 k hkk).2 e.symm)), h.len⟩

/-- Two pipes of one table. -/
structure Two (w0 : World) (gp : Nat) (all : Array Value) (g1 g2 : Nat) (r1 s1 : Int) (v1 : Value) (bs1 : List UInt8) (r2 s2 : Int) (v2 : Value) (bs2 : List UInt8) (w : World) : Prop where
  a : St w0 gp all 0 g1 r1 s1 v1 bs1 w
  b : St w0 gp all 1 g2 r2 s2 v2 bs2 w
  ne : g1 ≠ g2
  apart : ∀ k, v1.ownBlock = some k → v2.ownBlock ≠ some k
section
variable {w0 : World} {gp : Nat} {all : Array Value} {g1 g2 : Nat} {r1 s1 : Int} {v1 : Value} {bs1 : List UInt8} {r2 s2 : Int} {v2 : Value} {bs2 : List UInt8} {w : World}
theorem Two.onA (h : Two w0 gp all g1 g2 r1 s1 v1 bs1 r2 s2 v2 bs2 w) {w' : World} {r s : Int} {v : Value} {bs : List UInt8} (h' : St w0 gp all 0 g1 r s v bs w') (hk : Kept g1 v1 w w') (hv : v.ownBlock = v1.ownBlock ∨ ∀ k, v.ownBlock = some k → w.heap.size ≤ k) :
    Two w0 gp all g1 g2 r s v bs r2 s2 v2 bs2 w' := by
  refine ⟨h', h.b.other hk (fun e => h.ne e.symm) h.a.ne (own_blk_ne h.a.own h.b.one (by decide)).symm (own_blk_ne h.a.own h.b.blk (by decide)).symm (fun k hkk => ⟨fun e => own_blk_ne h.b.own h.a.one (by decide) (e ▸ hkk), fun e => h.apart k e hkk⟩) h.a.gb h.a.old, h.ne, fun k hkk e => ?_⟩
  rcases hv with hv | hv
  · exact h.apart k (hv.symm.trans hkk) e
  · have := hv k hkk
    have := (h.b.own.lt k e).2
    omega
theorem Two.onB (h : Two w0 gp all g1 g2 r1 s1 v1 bs1 r2 s2 v2 bs2 w) {w' : World} {r s : Int} {v : Value} {bs : List UInt8} (h' : St w0 gp all 1 g2 r s v bs w') (hk : Kept g2 v2 w w') (hv : v.ownBlock = v2.ownBlock ∨ ∀ k, v.ownBlock = some k → w.heap.size ≤ k) :
    Two w0 gp all g1 g2 r1 s1 v1 bs1 r s v bs w' := by
  refine ⟨h.a.other hk h.ne h.b.ne (own_blk_ne h.b.own h.a.one (by decide)).symm (own_blk_ne h.b.own h.a.blk (by decide)).symm (fun k hkk => ⟨fun e => own_blk_ne h.a.own h.b.one (by decide) (e ▸ hkk), fun e => h.apart k hkk e⟩) h.b.gb h.b.old, h', h.ne, fun k hkk e => ?_⟩
  rcases hv with hv | hv
  · exact h.apart k hkk (hv.symm.trans e)
  · have := hv k e
    have := (h.a.own.lt k hkk).2
    omega
theorem Two.keep (h : Two w0 gp all g1 g2 r1 s1 v1 bs1 r2 s2 v2 bs2 w) {w' : World} (hx : Ext w w') : Two w0 gp all g1 g2 r1 s1 v1 bs1 r2 s2 v2 bs2 w' := ⟨h.a.keep hx, h.b.keep hx, h.ne, h.apart⟩
end

/-- Less, an end of its pipe is left. -/
theorem St.less {w0 : World} {gp : Nat} {all : Array Value} {i g : Nat} {r s r' s' : Int} {v : Value} {bs : List UInt8} {w w' : World} (h : St w0 gp all i g r s v bs w) (ho : OneAt w' g r' s' v) (hk : Kept g (.slice none 0 0) w w') : St w0 gp all i g r' s' v bs w' :=
  ⟨hk.blk h.blk h.ne (by simp [Value.ownBlock]), h.hi, h.hp, h.gpb, h.gb, hk.ext h.ext h.gb (fun k e => by simp [Value.ownBlock] at e), ho, own_of_keep h.own (fun k hkk => hk.block k (h.own.lt k hkk).2 (fun e => own_blk_ne h.own h.one (by decide) (e ▸ hkk)) (by simp [Value.ownBlock])), h.len⟩
theorem Kept.any {g : Nat} {w w' : World} (hk : Kept g (.slice none 0 0) w w') (v : Value) : Kept g v w w' := ⟨hk.os, hk.tape, hk.output, hk.size, fun k h1 h2 _ => hk.block k h1 h2 (by simp [Value.ownBlock])⟩

theorem two_made {w0 : World} {gp : Nat} {w1 w2 w3 : World} (hx : w0.heap.size ≤ gp) (hlt : gp < w1.heap.size) (h1 : St w0 gp (nones.setIfInBounds 0 (.pointer (some ⟨w1.heap.size, 0, none⟩))) 0 w1.heap.size 1 1 (.slice none 0 0) [] w2)
    (h2 : St w0 gp ((nones.setIfInBounds 0 (.pointer (some ⟨w1.heap.size, 0, none⟩))).setIfInBounds 1 (.pointer (some ⟨w2.heap.size, 0, none⟩))) 1 w2.heap.size 1 1 (.slice none 0 0) [] w3) (hk : Kept gp (.slice none 0 0) w2 w3) :
    Two w0 gp ((nones.setIfInBounds 0 (.pointer (some ⟨w1.heap.size, 0, none⟩))).setIfInBounds 1 (.pointer (some ⟨w2.heap.size, 0, none⟩))) w1.heap.size w2.heap.size 1 1 (.slice none 0 0) [] 1 1 (.slice none 0 0) [] w3 := by
  have hl := h1.one.lt
  refine ⟨⟨h2.blk, by omega, by rfl, h1.gpb, h1.gb, h2.ext, hk.blk h1.one (by omega) (by simp [Value.ownBlock]), World.ownsRow_nil _ _ _ _, Nat.zero_le _⟩, h2, by omega, fun k e => by simp [Value.ownBlock] at e⟩

section
variable {P : Program} (w : World)
theorem wp_append_lit {o : Oper} {a : Act} {K : Act → World → Prop} {Q : Exit → Act → World → Prop} (s x : Operand) (t : TypeId)
    (ho : o.op = .call { callee := .builtin .append, args := #[s, x], argTypes := #[t, t] })
    (e : TypeId) (i : TypeInfo) (z : Value) (size bytes : Nat) (ht : P.underlying t = some (.slice e)) (hi : P.info? e = some i) (hz : i.zero = some z)
    (hsize : i.size = size) (hby : i.bytes = bytes) (hzs : z.cells.size = size) (hsz : 0 < size)
    (Bo : Nat) (ao : Addr) (n : Nat) (olds : List Value) (hs : a.eval s = .slice (some ao) n n) (hro : Reads w Bo size (some ao) n olds) (hBo : Bo ≤ w.heap.size)
    (B : Nat) (A : Option Addr) (m c : Nat) (news : List Value) (hx : a.eval x = .slice A m c) (hr : Reads w B size A m news) (h1 : ∀ u ∈ news, u.oneCell' = true)
    (h63 : n + m ≤ maxLen) (hbytes : (n + m) * bytes ≤ 140737488355328)
    (h : ∀ A' c' w', Reads w' w'.heap.size size A' (n + m) (olds ++ news) → n + m ≤ c' → Ext w w' → K (a.put o.dst (.slice A' (n + m) c')) w') : o.wp P a w K Q := by
  rcases Nat.eq_zero_or_pos m with h0 | h0
  · subst h0
    have hnil : news = [] := List.eq_nil_of_length_eq_zero (by simpa using hr.1)
    subst hnil
    have hrun : (Builtin.append_ #[t, t] o.type #[.slice (some ao) n n, .slice A 0 c]).run P w = .ok (.slice (some ao) n n) w := by
      cases A <;> simp [Builtin.append_, run_underlying ht, sizeOf, typeInfo, hi, Builtin.lenOf, Builtin.firstCells, storeCells, loadCells, loadCellsFrom]
    unfold Oper.wp execOp
    simp only [ho, resolve, invoke, builtin, Sem.run_bind, Sem.run_pure, Result.andThen_ok, List.map_toArray, List.map_cons, List.map_nil, hs, hx, hrun]
    have := h (some ao) n w (by simpa using hro.more hBo) (by omega) (Ext.refl w)
    rw [Nat.add_zero] at this
    exact this
  · exact wp_append_new w s x t ho e i z size bytes ht hi hz hsize hby hzs hsz Bo (some ao) n n olds hs (fun e => by cases e) hro B A m c news hx hr h1 (by omega) h0 h63 hbytes fun A' c' w' h2 h3 => h A' c' w' (Reads.of_own h2) (own_le h2).1 h3
theorem wpList_append_lit {ops : Array Oper} {rest : List Oper} {o : Oper} {a : Act} {Q : Exit → Act → World → Prop} (hgd : o.guard = none) (s x : Operand) (t : TypeId)
    (ho : o.op = .call { callee := .builtin .append, args := #[s, x], argTypes := #[t, t] })
    (e : TypeId) (i : TypeInfo) (z : Value) (size bytes : Nat) (ht : P.underlying t = some (.slice e)) (hi : P.info? e = some i) (hz : i.zero = some z)
    (hsize : i.size = size) (hby : i.bytes = bytes) (hzs : z.cells.size = size) (hsz : 0 < size)
    (Bo : Nat) (ao : Addr) (n : Nat) (olds : List Value) (hs : a.eval s = .slice (some ao) n n) (hro : Reads w Bo size (some ao) n olds) (hBo : Bo ≤ w.heap.size)
    (B : Nat) (A : Option Addr) (m c : Nat) (news : List Value) (hx : a.eval x = .slice A m c) (hr : Reads w B size A m news) (h1 : ∀ u ∈ news, u.oneCell' = true)
    (h63 : n + m ≤ maxLen) (hbytes : (n + m) * bytes ≤ 140737488355328)
    (h : ∀ A' c' w', Reads w' w'.heap.size size A' (n + m) (olds ++ news) → n + m ≤ c' → Ext w w' → wpList P ops Q rest (a.put o.dst (.slice A' (n + m) c')) w') : wpList P ops Q (o :: rest) a w :=
  wpList_plain hgd fun _ hK => wp_append_lit w s x t ho e i z size bytes ht hi hz hsize hby hzs hsz Bo ao n olds hs hro hBo B A m c news hx hr h1 h63 hbytes fun A' c' w' h2 h3 h4 => hK _ _ (h A' c' w' h2 h3 h4)
end
end Go.Proofs.Ytoicpnpahjmegaa
