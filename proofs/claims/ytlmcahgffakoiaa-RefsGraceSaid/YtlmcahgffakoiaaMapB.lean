/- A map[int]bool of the call's own that holds true alone: a set of small numbers. Plain theorems. -/
import Derived.Test.YtlmcahgffakoiaaRows
import Derived.Test.YtlmcahgffakoiaaRefsPlain
import Derived.Maps.Own
import Derived.Maps.OwnOps
import Derived.Maps.OwnSet
import Derived.Maps.Views
namespace Go.Proofs.Ytlmcahgffakoiaa
open Go.RowKit Go.Maps

theorem wfB (a : Nat) (h : a < 64) : (Lit.int .i64 (a : Int)).wf = true := by
  simp [Lit.wf, IntKind.min, IntKind.max, IntKind.signed, IntKind.bits]
  omega
theorem plainElem_bool_inv {H : Type} {P : Program} {e : TypeId} (he : P.underlying e = some .bool) {v : Value} {z : DataW H × List MemPlace} (h : plainElem P e v = some z) : ∃ a, v = .bool a ∧ z = (.lit (.bool a), []) := by
  unfold plainElem at h
  rw [he] at h
  cases v <;> simp at h
  exact ⟨_, rfl, h.symm⟩
theorem updB_id (M : Nat → Bool) (o : Nat) (b : Bool) (h : M o = b) : updN M o b = M := by
  funext x
  unfold updN
  split
  · subst_vars; rfl
  · rfl
/-- Block b is a map (at most n entries were put into it) whose keys are just S, numbers below 64. -/
def MapB (w : World) (b n : Nat) (S : Nat → Bool) : Prop :=
  (∃ D : DataW Unit, w.ownsMap Try.prog 3 (plainElem Try.prog 4) b n D ∧ (∀ o : Nat, Maps.has D (.int .i64 (o : Int)) = S o ∧ D.atKey (.int .i64 (o : Int)) (.lit (.bool false)) = .lit (.bool (S o))) ∧ Maps.size D = (setL S 64).length) ∧ ∀ x, S x = true → x < 64
theorem MapB.made (w : World) : MapB (w.alloc (.map #[] 0)) w.heap.size 0 (fun _ => false) := ⟨⟨.map [], World.ownsMap_made w _ _ _, fun _ => ⟨rfl, rfl⟩, rfl⟩, fun x h => by cases h⟩
section
variable {w w' : World} {b n : Nat} {S : Nat → Bool}
theorem MapB.lt (h : MapB w b n S) : b < w.heap.size := by obtain ⟨⟨D, h, _⟩, _⟩ := h; exact h.lt
theorem MapB.mono {n' : Nat} (h : MapB w b n S) (hn : n ≤ n') : MapB w b n' S := by
  obtain ⟨⟨D, h, hf⟩, h2⟩ := h
  exact ⟨⟨D, h.mono hn, hf⟩, h2⟩
theorem MapB.kept {row : Option Nat} (h : MapB w b n S) (hg : w.grownBy w' row) (hne : some b ≠ row) : MapB w' b n S := by
  obtain ⟨⟨D, h, hf⟩, h2⟩ := h
  exact ⟨⟨D, h.kept hg hne, hf⟩, h2⟩
theorem MapB.far (h : MapB w b n S) {p : Addr} (hp : b ≠ p.block) (u : Value) : MapB (w.setCell p u) b n S := by
  obtain ⟨⟨D, h, hf⟩, h2⟩ := h
  exact ⟨⟨D, h.setCell hp u, hf⟩, h2⟩
theorem MapB.alloc (h : MapB w b n S) (o : Obj) : MapB (w.alloc o) b n S := h.kept (World.grownBy_alloc w o none) (by simp)
theorem MapB.ext (h : MapB w b n S) (hx : Ext w w') : MapB w' b n S := h.kept (row := none) ⟨hx.os, hx.tape, hx.output, hx.size, fun k hk _ => hx.block k hk⟩ (by simp)
theorem MapB.congr {S' : Nat → Bool} (h : MapB w b n S) (e : ∀ x, S x = S' x) : MapB w b n S' := by
  have : S = S' := funext e
  rwa [← this]
theorem MapB.look (h : MapB w b n S) (o : Nat) (ho : o < 64) : (Instr.lookup 24 (.map (some b)) (.int .i64 (o : Int)) false).run Try.prog w = .ok (.bool (S o)) w := by
  obtain ⟨⟨D, h, hf, _⟩, _⟩ := h
  obtain ⟨v, ps, hrun, hv⟩ := h.lookup (int_keyed Try.underlying3) Try.underlying24 (z := .bool false) (by kernel_rfl) (plainElem_bool Try.underlying4 false) (keyOf_int_mk Try.underlying3 (wfB o ho))
  rw [(hf o).2] at hv
  obtain ⟨a, rfl, he⟩ := plainElem_bool_inv Try.underlying4 hv
  injection he with he _
  injection he with he
  injection he with he
  rw [he]
  exact hrun
theorem MapB.store (h : MapB w b n S) (hn : n < maxLen) (o : Nat) (ho : o < 64) :
    ∃ w', (Instr.mapUpdate 24 (.map (some b)) (.int .i64 (o : Int)) (.bool true)).run Try.prog w = .ok () w' ∧ MapB w' b (n + 1) (updN S o true) ∧ w.grownBy w' (some b) := by
  obtain ⟨⟨D, h, hf, hs⟩, h2⟩ := h
  obtain ⟨w', hrun, h5, h6⟩ := h.update (int_keyed Try.underlying3) Try.underlying24 hn (keyOf_int_mk Try.underlying3 (wfB o ho)) (plainElem_bool Try.underlying4 true)
  refine ⟨w', hrun, ⟨⟨_, h5, fun x => ?_, ?_⟩, fun x hx => ?_⟩, h6⟩
  · by_cases hx : x = o
    · subst hx
      rw [has_put_same h.isMap (by trivial), atKey_put_same h.isMap (by trivial), updN_same]
      exact ⟨rfl, rfl⟩
    · have hne : Lit.int .i64 (x : Int) ≠ Lit.int .i64 (o : Int) := fun e => hx (by injection e with _ e; omega)
      rw [has_put_other hne, atKey_put_other hne, updN_other _ _ _ _ hx]
      exact hf x
  · rw [size_put (h.tidy (int_keyed Try.underlying3)), (hf o).1, hs]
    cases hS : S o with
    | true => rw [updB_id S o true hS]; simp
    | false => rw [len_upd S o hS, if_pos ho]; simp
  · by_cases e : x = o
    · rw [e]; exact ho
    · rw [updN_other _ _ _ _ e] at hx; exact h2 x hx
theorem MapB.drop (h : MapB w b n S) (o : Nat) (ho : o < 64) (ty : TypeId) :
    ∃ w', (Builtin.delete_ #[24, 3] ty #[.map (some b), .int .i64 (o : Int)]).run Try.prog w = .ok (.tuple #[]) w' ∧ MapB w' b n (updN S o false) ∧ w.grownBy w' (some b) := by
  obtain ⟨⟨D, h, hf, hs⟩, h2⟩ := h
  obtain ⟨w', hrun, h5, h6⟩ := h.drop (int_keyed Try.underlying3) Try.underlying24 (keyOf_int_mk Try.underlying3 (wfB o ho)) ty
  refine ⟨w', hrun, ⟨⟨_, h5, fun x => ?_, ?_⟩, fun x hx => ?_⟩, h6.grown⟩
  · by_cases hx : x = o
    · subst hx
      rw [has_del_same, atKey_del_same, updN_same]
      exact ⟨rfl, rfl⟩
    · have hne : Lit.int .i64 (x : Int) ≠ Lit.int .i64 (o : Int) := fun e => hx (by injection e with _ e; omega)
      rw [has_del_other hne, atKey_del_other hne, updN_other _ _ _ _ hx]
      exact hf x
  · have := size_del (k := .int .i64 (o : Int)) (h.tidy (int_keyed Try.underlying3))
    rw [(hf o).1, hs] at this
    cases hS : S o with
    | false => rw [updB_id S o false hS]; simpa [hS] using this
    | true =>
      have h3 := len_del S o hS 64
      rw [if_pos ho] at h3
      simp [hS] at this
      omega
  · by_cases e : x = o
    · rw [e, updN_same] at hx; cases hx
    · rw [updN_other _ _ _ _ e] at hx; exact h2 x hx
theorem MapB.len (h : MapB w b n S) (ty : TypeId) : (Builtin.len_ #[24] ty #[.map (some b)]).run Try.prog w = .ok (.int .i64 ((setL S 64).length : Nat)) w := by
  obtain ⟨⟨D, h, _, hs⟩, _⟩ := h
  have := h.len Try.underlying24 ty
  rwa [hs] at this
end
theorem setL_pos {S : Nat → Bool} {k x : Nat} (hx : x < k) (h : S x = true) : 0 < (setL S k).length := by
  have : x ∈ setL S k := (mem_setL S k x).2 ⟨hx, h⟩
  exact List.length_pos_of_mem this
theorem setL_none {S : Nat → Bool} {k : Nat} (h : ∀ x, x < k → S x = false) : (setL S k).length = 0 := by
  rw [List.length_eq_zero_iff, List.eq_nil_iff_forall_not_mem]
  intro x hx
  obtain ⟨h1, h2⟩ := (mem_setL S k x).1 hx
  rw [h x h1] at h2
  cases h2
end Go.Proofs.Ytlmcahgffakoiaa
