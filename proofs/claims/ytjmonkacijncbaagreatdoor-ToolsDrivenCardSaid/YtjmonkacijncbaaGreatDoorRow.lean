/- A row of bytes of the call's own that is filled from the front by copies; cuts of slices as run equations. Plain theorems. -/
import Derived.Test.YtjmonkacijncbaaGreatDoorCopyN
import Derived.Test.YtjmonkacijncbaaGreatDoorStr
import Derived.Laws.Slices
namespace Go.Proofs.YtjmonkacijncbaaGreatDoor
open Go.RowKit
set_option linter.unusedVariables false

/-- 's[lo:hi]' as one run equation: the address under a name. -/
theorem cut_mid {P : Program} {w : World} {t e : TypeId} {i : TypeInfo} (ht : P.underlying t = some (.slice e)) (hi : P.info? e = some i) (hs : i.size = 1) {B n : Nat} {A : Option Addr} {xs : List Value} (h : Reads w B 1 A n xs) (lo up c : Nat) (h1 : lo ≤ up) (h2 : up ≤ n) (hc : n ≤ c) (kl kh : IntKind) :
    ∃ A', (∀ W, (Instr.slice t (.slice A n c) (some (.int kl (lo : Int))) (some (.int kh (up : Int))) none).run P W = .ok (.slice A' (up - lo) (c - lo)) W) ∧ Reads w B 1 A' (up - lo) ((xs.drop lo).take (up - lo)) := by
  have he : P.elem t = e := by simp [Program.elem, ht]
  have ht' : P.underlying t = some (.slice (P.elem t)) := by rw [he]; exact ht
  refine ⟨if c = lo then A else A.map (·.add (lo * 1)), fun W => ?_, ?_⟩
  · rw [run_slice_lh W t A n c ht' kl kh (lo : Int) (up : Int) (by omega) (by omega) (by omega), he]
    simp [sizeOf, typeInfo, hi, hs, sliced, Result.andThen]
  · have h3 := h.cut (k := lo) (cap := c) (by omega) hc
    have h4 := h3.take (k := up - lo) (by omega)
    simpa using h4
/-- 's[lo:]' in the midst of a row. -/
theorem cut_row {P : Program} {t e : TypeId} {i : TypeInfo} (ht : P.underlying t = some (.slice e)) (hi : P.info? e = some i) (hs : i.size = 1) (g p n : Nat) (hp : p < n) (kl : IntKind) (W : World) :
    (Instr.slice t (.slice (some ⟨g, 0, none⟩) n n) (some (.int kl (p : Int))) none none).run P W = .ok (.slice (some ⟨g, p, none⟩) (n - p) (n - p)) W := by
  have he : P.elem t = e := by simp [Program.elem, ht]
  have ht' : P.underlying t = some (.slice (P.elem t)) := by rw [he]; exact ht
  rw [run_slice_l W t (some ⟨g, 0, none⟩) n n ht' kl (p : Int) (by omega) (by omega), he]
  have hne : ¬ n = p := by omega
  simp [sizeOf, typeInfo, hi, hs, sliced, Result.andThen, hne, add_lit]
/-- 's[len(s):]'. -/
theorem cut_end {P : Program} {t e : TypeId} {i : TypeInfo} (ht : P.underlying t = some (.slice e)) (hi : P.info? e = some i) (hs : i.size = 1) (g n : Nat) (kl : IntKind) (W : World) :
    (Instr.slice t (.slice (some ⟨g, 0, none⟩) n n) (some (.int kl (n : Int))) none none).run P W = .ok (.slice (some ⟨g, 0, none⟩) 0 0) W := by
  have he : P.elem t = e := by simp [Program.elem, ht]
  have ht' : P.underlying t = some (.slice (P.elem t)) := by rw [he]; exact ht
  rw [run_slice_l W t (some ⟨g, 0, none⟩) n n ht' kl (n : Int) (by omega) (by omega), he]
  simp [sizeOf, typeInfo, hi, hs, sliced, Result.andThen]

/-- Block g is a row of n bytes of the call's own; its first bytes are L. -/
def RowP (w0 : World) (g n : Nat) (L : List UInt8) (w : World) : Prop :=
  Ext w0 w ∧ w0.heap.size ≤ g ∧ L.length ≤ n ∧ ∃ cs : Array Value, w.heap[g]? = some (.cells cs 5 (0, 0)) ∧ cs.size = n ∧ cs.toList.take L.length = bytesV L
theorem row_infoB : (Tryz.prog.info? 5).map (fun i => (i.zero, i.size, i.bytes)) = some (some (.int .u8 0), 1, 1) := by kernel_rfl
theorem setRow_extR {w0 w : World} (h : Ext w0 w) {g : Nat} (hg : w0.heap.size ≤ g) (cs : Array Value) : Ext w0 (w.setRow g cs) :=
  Ext.of (below_setRow (Ext.below h) hg cs)
/-- A copy behind what lies in the row. -/
theorem RowP.copy {w0 w : World} {g n : Nat} {L : List UInt8} (h : RowP w0 g n L w) (X : List UInt8) (hX : L.length + X.length ≤ n) (B : Nat) (A : Option Addr) (k kc : Nat) (hr : Reads w B 1 A k (bytesV X)) (p dl dc : Nat) (hp : p = L.length) (hd : k ≤ dl) (hk : 0 < k) (ty : TypeId) :
    ∃ w', (Builtin.copy_ #[22, 22] ty #[.slice (some ⟨g, p, none⟩) dl dc, .slice A k kc]).run Tryz.prog w = .ok (.int .i64 (k : Int)) w' ∧ RowP w0 g n (L ++ X) w' := by
  obtain ⟨hx, hg, hl, cs, hh, hs, ht⟩ := h
  have hkl : X.length = k := by have := hr.1; rw [bytesV_length] at this; omega
  obtain ⟨ad, rfl, hb, hc⟩ := hr.2 hk
  obtain ⟨i0, hi0, hz0, hz1, hz2⟩ := info_parts row_infoB
  have hcp := run_copy_rowN (P := Tryz.prog) w 22 22 ty 5 1 g p dl dc ad k kc cs 5 (bytesV X) Tryz.underlying22 (by rw [hi0]; simp [hz1]) hh (by rw [bytesV_length, show Nat.min k dl = k from Nat.min_eq_left hd]; omega) hc (by rw [bytesV_length]; omega) (bytesV_one X)
  rw [show Nat.min k dl = k from Nat.min_eq_left hd] at hcp
  refine ⟨_, hcp, setRow_extR hx hg _, hg, by rw [List.length_append]; omega, (spl cs.toList p (bytesV X)).toArray, setRow_heap w g cs _ _ _ hh, ?_, ?_⟩
  · simp only [spl, List.size_toArray, List.length_append, List.length_take, List.length_drop, bytesV_length, Array.length_toList]
    omega
  · have h1 : (cs.toList.take p).length = p := by rw [List.length_take, Array.length_toList]; omega
    have e1 : L.length + X.length = (cs.toList.take p ++ bytesV X).length := by rw [List.length_append, h1, bytesV_length]; omega
    rw [List.length_append, e1]
    simp only [spl]
    rw [← List.append_assoc, List.take_left, hp, ht, bytesV_append]
theorem RowP.copy0 {w0 w : World} {g n : Nat} {L : List UInt8} (h : RowP w0 g n L w) (A : Option Addr) (p kc dl dc : Nat) (hp : p ≤ n) (ty : TypeId) :
    (Builtin.copy_ #[22, 22] ty #[.slice (some ⟨g, p, none⟩) dl dc, .slice A 0 kc]).run Tryz.prog w = .ok (.int .i64 0) w := by
  obtain ⟨hx, hg, hl, cs, hh, hs, ht⟩ := h
  obtain ⟨i0, hi0, hz0, hz1, hz2⟩ := info_parts row_infoB
  cases A with
  | none => simp [Builtin.copy_, run_underlying Tryz.underlying22, sizeOf, typeInfo, hi0, Builtin.lenOf, Builtin.firstCells, storeCells, goInt]
  | some ad =>
    have hcp := run_copy_rowN (P := Tryz.prog) w 22 22 ty 5 1 g p dl dc ad 0 kc cs 5 [] Tryz.underlying22 (by rw [hi0]; simp [hz1]) hh (by simp) (fun j v hj => by simp at hj) (by simp; omega) (by simp)
    rw [show Nat.min 0 dl = 0 from Nat.zero_min dl] at hcp
    have e1 : (spl cs.toList p []).toArray = cs := by simp [spl]
    rw [e1, setRow_self w g cs _ _ hh] at hcp
    exact hcp
/-- A copy behind what lies in the row, of no byte too. -/
theorem RowP.copy_any {w0 w : World} {g n : Nat} {L : List UInt8} (h : RowP w0 g n L w) (X : List UInt8) (hX : L.length + X.length ≤ n) (B : Nat) (A : Option Addr) (k kc : Nat) (hr : Reads w B 1 A k (bytesV X)) (p dl dc : Nat) (hp : p = L.length) (hd : k ≤ dl) (ty : TypeId) :
    ∃ w', (Builtin.copy_ #[22, 22] ty #[.slice (some ⟨g, p, none⟩) dl dc, .slice A k kc]).run Tryz.prog w = .ok (.int .i64 (k : Int)) w' ∧ RowP w0 g n (L ++ X) w' := by
  rcases Nat.eq_zero_or_pos k with h0 | h0
  · subst h0
    have hX0 : X = [] := List.eq_nil_of_length_eq_zero (by have := hr.1; rw [bytesV_length] at this; omega)
    subst hX0
    exact ⟨w, h.copy0 A p kc dl dc (by omega) ty, by rw [List.append_nil]; exact h⟩
  · exact h.copy X hX B A k kc hr p dl dc hp hd h0 ty
/-- 's[0:len(s)]'. -/
theorem cut_whole {P : Program} {t e : TypeId} {i : TypeInfo} (ht : P.underlying t = some (.slice e)) (hi : P.info? e = some i) (hs : i.size = 1) (g n : Nat) (kl kh : IntKind) (W : World) :
    (Instr.slice t (.slice (some ⟨g, 0, none⟩) n n) (some (.int kl 0)) (some (.int kh (n : Int))) none).run P W = .ok (.slice (some ⟨g, 0, none⟩) n n) W := by
  have he : P.elem t = e := by simp [Program.elem, ht]
  have ht' : P.underlying t = some (.slice (P.elem t)) := by rw [he]; exact ht
  rw [run_slice_lh W t (some ⟨g, 0, none⟩) n n ht' kl kh 0 (n : Int) (by omega) (by omega) (by omega), he]
  simp [sizeOf, typeInfo, hi, hs, sliced, Result.andThen, add_lit]
theorem RowP.own {w0 w : World} {g n : Nat} {L : List UInt8} (h : RowP w0 g n L w) (hl : L.length = n) (hn : n ≤ maxLen) : w.ownsRow w0.heap.size 5 1 (.slice (some ⟨g, 0, none⟩) n n) n (bytesV L) := by
  obtain ⟨hx, hg, _, cs, hh, hs, ht⟩ := h
  exact own_of_row hg hh (Nat.le_refl _) hn (by omega) (by rw [Nat.mul_one, ← hl]; exact ht) (by rw [bytesV_length]; omega)
theorem RowP.ext {w0 w : World} {g n : Nat} {L : List UInt8} (h : RowP w0 g n L w) {w' : World} (hx : Ext w w') : RowP w0 g n L w' := by
  obtain ⟨h1, h2, h3, cs, hh, h4, h5⟩ := h
  exact ⟨h1.trans hx, h2, h3, cs, (Below.block hx g (Array.getElem?_eq_some_iff.1 hh).1).trans hh, h4, h5⟩
theorem RowP.made {w0 w w' : World} (hx0 : Ext w0 w) {g n : Nat} {xs : List Value} (ho : w'.ownsRow w.heap.size 5 1 (.slice (some ⟨g, 0, none⟩) n n) n xs) (hg : w.grownBy w' none) : RowP w0 g n [] w' := by
  rcases ho.2 with ⟨h2, _⟩ | ⟨g1, cap, cur, hv, hb, hh, hnc, hm, hs, hx⟩
  · cases h2
  · injection hv with hA _ hc
    injection hA with hA
    injection hA with hA
    subst hA
    subst hc
    exact ⟨hx0.grown hg (fun k hk => by cases hk), Nat.le_trans hx0.size hb, Nat.zero_le _, cur, hh, by omega, by simp [bytesV]⟩
end Go.Proofs.YtjmonkacijncbaaGreatDoor
