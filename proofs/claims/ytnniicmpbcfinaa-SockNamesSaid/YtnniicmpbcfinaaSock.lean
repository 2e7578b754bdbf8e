/- Sockets as they lie in memory, as plain data; what may be done to one of them. -/
import Derived.Test.YtnniicmpbcfinaaRows
import Derived.Test.YtnniicmpbcfinaaArr
import Derived.Test.YtnniicmpbcfinaaIntsV
import Derived.WalkKit
import Derived.WalkSpells
import Derived.ProofKit
import Derived.Deep.QuietTactic
import Derived.BigQuiet
import Derived.Deep.RegionHeld3
import Derived.Deep.DeepCutAuto
import Derived.Lib.SliceRun
namespace Go.Proofs.Ytnniicmpbcfinaa
open Go.RowKit
set_option linter.unusedVariables false

structure SkD where
  kind : Int
  port : Int
  many : Int
  queue : List Int
  peer : Int
  inn : List UInt8
  shut : Bool
def skZero : SkD := ⟨0, 0, 0, [], 0, [], false⟩
abbrev nilV : Value := .slice none 0 0
def oneC (d : SkD) (vq vi : Value) : Array Value := #[.int .i64 d.kind, .int .i64 d.port, .int .i64 d.many, vq, .int .i64 d.peer, vi, .bool d.shut]
structure MemS where
  b : Nat
  vq : Value
  vi : Value
abbrev ptrS (S : Nat → Option SkD) (M : Nat → MemS) (i : Nat) : Value := .pointer (if (S i).isSome then some ⟨(M i).b, 0, none⟩ else none)
/-- Only block g, the rows of two slices, and new blocks may be other ones. -/
structure Kept3 (g : Nat) (v u : Value) (w w' : World) : Prop where
  os : w'.os = w.os
  tape : w'.tape = w.tape
  output : w'.output = w.output
  size : w.heap.size ≤ w'.heap.size
  block : ∀ k, k < w.heap.size → k ≠ g → some k ≠ v.ownBlock → some k ≠ u.ownBlock → w'.heap[k]? = w.heap[k]?
theorem Kept3.of_grown {g : Nat} {v u : Value} {w w' : World} (h : w.grownBy w' (some g)) : Kept3 g v u w w' :=
  ⟨h.os, h.tape, h.output, h.size, fun k hk hg _ _ => h.block k hk (fun e => hg (by injection e))⟩
theorem own_of_keep {w w' : World} {base size n : Nat} {e : TypeId} {v : Value} {xs : List Value} (ho : w.ownsRow base e size v n xs) (h : ∀ k, v.ownBlock = some k → w'.heap[k]? = w.heap[k]?) : w'.ownsRow base e size v n xs := by
  obtain ⟨h1, h2⟩ := ho
  refine ⟨h1, ?_⟩
  rcases h2 with h2 | ⟨g, cap, cur, hv, hg, hh, r⟩
  · exact .inl h2
  · exact .inr ⟨g, cap, cur, hv, hg, (h g (by rw [hv]; rfl)).trans hh, r⟩
theorem own_ne_own {w : World} {base base' : Nat} {e e' : TypeId} {size size' n n' : Nat} {v v' : Value} {xs xs' : List Value} (h : w.ownsRow base e size v n xs) (h' : w.ownsRow base' e' size' v' n' xs') (hne : e ≠ e') {k : Nat} (hv : v.ownBlock = some k) : v'.ownBlock ≠ some k := by
  intro hv'
  rcases h.2 with ⟨rfl, _⟩ | ⟨g, cap, cur, rfl, _, hh, _⟩
  · simp [Value.ownBlock] at hv
  · rcases h'.2 with ⟨rfl, _⟩ | ⟨g', cap', cur', rfl, _, hh', _⟩
    · simp [Value.ownBlock] at hv'
    · have e1 : g = k := by simpa [Value.ownBlock] using hv
      have e2 : g' = k := by simpa [Value.ownBlock] using hv'
      subst e1
      subst e2
      exact Blk.ne_ (t := e) (t' := e') hh hh' hne rfl

structure SkAt (w0 : World) (gs : Nat) (S : Nat → Option SkD) (M : Nat → MemS) (w : World) : Prop where
  tab : Arr w gs 53 16 (ptrS S M)
  far : ∀ i, 16 ≤ i → S i = none
  box : ∀ i d, S i = some d → Blk w (M i).b 49 (oneC d (M i).vq (M i).vi)
  q : ∀ i d, S i = some d → w.ownsRow w0.heap.size 3 1 (M i).vq d.queue.length (intsV d.queue)
  inn : ∀ i d, S i = some d → w.ownsRow w0.heap.size 5 1 (M i).vi d.inn.length (bytesV d.inn)
  bi : ∀ i j d d', S i = some d → S j = some d' → (M i).b = (M j).b → i = j
  qi : ∀ i j d d' k, S i = some d → S j = some d' → (M i).vq.ownBlock = some k → (M j).vq.ownBlock = some k → i = j
  ii : ∀ i j d d' k, S i = some d → S j = some d' → (M i).vi.ownBlock = some k → (M j).vi.ownBlock = some k → i = j
  gsb : w0.heap.size ≤ gs
  bb : ∀ i d, S i = some d → w0.heap.size ≤ (M i).b
  ext : Ext w0 w
section
variable {w0 w w' : World} {gs : Nat} {S : Nat → Option SkD} {M : Nat → MemS}
theorem SkAt.blkT (h : SkAt w0 gs S M w) : ∃ cs, Blk w gs 53 cs := by obtain ⟨cs, hb, _⟩ := h.tab; exact ⟨cs, hb⟩
/-- Something is done to socket i, and to its rows alone. -/
theorem SkAt.mod (h : SkAt w0 gs S M w) (i : Nat) (d d' : SkD) (m' : MemS) (hS : S i = some d) (hb : m'.b = (M i).b) (hk : Kept3 (M i).b (M i).vq (M i).vi w w')
    (hbox : Blk w' (M i).b 49 (oneC d' m'.vq m'.vi)) (hq : w'.ownsRow w0.heap.size 3 1 m'.vq d'.queue.length (intsV d'.queue)) (hi : w'.ownsRow w0.heap.size 5 1 m'.vi d'.inn.length (bytesV d'.inn))
    (hqn : m'.vq.ownBlock = (M i).vq.ownBlock ∨ ∀ k, m'.vq.ownBlock = some k → w.heap.size ≤ k) (hin : m'.vi.ownBlock = (M i).vi.ownBlock ∨ ∀ k, m'.vi.ownBlock = some k → w.heap.size ≤ k) :
    SkAt w0 gs (updN S i (some d')) (updN M i m') w' := by
  obtain ⟨cs, hT⟩ := h.blkT
  have hbi := h.box i d hS
  have hqi := h.q i d hS
  have hii := h.inn i d hS
  have oth : ∀ j e, updN S i (some d') j = some e → j ≠ i → S j = some e ∧ updN M i m' j = M j := fun j e he hj => by
    rw [updN_other _ _ _ _ hj] at he ⊢
    exact ⟨he, rfl⟩
  have keepB : ∀ k, k < w.heap.size → k ≠ (M i).b → (∀ t cs, Blk w k t cs → t ≠ 3 ∧ t ≠ 5) → (∃ t cs, Blk w k t cs) → w'.heap[k]? = w.heap[k]? := fun k hk1 hk2 ht ⟨t, cs, hbk⟩ => by
    obtain ⟨t1, t2⟩ := ht t cs hbk
    exact hk.block k hk1 hk2 (own_blk_ne hqi hbk (fun e => t1 e.symm)).symm (own_blk_ne hii hbk (fun e => t2 e.symm)).symm
  have tOf : ∀ {k t cs}, Blk w k t cs → t ≠ 3 → t ≠ 5 → ∀ t' cs', Blk w k t' cs' → t' ≠ 3 ∧ t' ≠ 5 := fun {k t cs} h1 n1 n2 t' cs' h2 => by
    unfold Blk at h1 h2
    rw [h1] at h2
    injection h2 with h2
    injection h2 with _ h3
    subst h3
    exact ⟨n1, n2⟩
  refine ⟨?_, ?_, ?_, ?_, ?_, ?_, ?_, ?_, h.gsb, ?_, ?_⟩
  · obtain ⟨cs, hb1, hs, hc⟩ := h.tab
    have hgsne : gs ≠ (M i).b := Blk.ne_ hb1 hbi (by decide)
    refine ⟨cs, (keepB gs hb1.lt hgsne (tOf hb1 (by decide) (by decide)) ⟨_, _, hb1⟩).trans hb1, hs, fun o ho => ?_⟩
    rw [hc o ho]
    by_cases e : o = i
    · subst e
      simp [ptrS, updN, hS, hb]
    · simp [ptrS, updN, e]
  · intro j hj
    have : j ≠ i := fun e => by subst e; rw [h.far j hj] at hS; cases hS
    rw [updN_other _ _ _ _ this]
    exact h.far j hj
  · intro j e he
    by_cases hj : j = i
    · subst hj
      rw [updN_same] at he ⊢
      injection he with he
      subst he
      rw [hb]
      exact hbox
    · obtain ⟨h1, h2⟩ := oth j e he hj
      rw [h2]
      have hbj := h.box j e h1
      exact (keepB _ hbj.lt (fun e' => hj (h.bi j i e d h1 hS e')) (tOf hbj (by decide) (by decide)) ⟨_, _, hbj⟩).trans hbj
  · intro j e he
    by_cases hj : j = i
    · subst hj
      rw [updN_same] at he ⊢
      injection he with he
      subst he
      exact hq
    · obtain ⟨h1, h2⟩ := oth j e he hj
      rw [h2]
      have hqj := h.q j e h1
      refine own_of_keep hqj (fun k hv => hk.block k (hqj.lt k hv).2 ?_ ?_ ?_)
      · intro e'
        exact own_blk_ne hqj hbi (by decide) (by rw [hv, e'])
      · intro e'
        exact hj (h.qi j i e d k h1 hS hv e'.symm)
      · intro e'
        exact own_ne_own hqj hii (by decide) hv e'.symm
  · intro j e he
    by_cases hj : j = i
    · subst hj
      rw [updN_same] at he ⊢
      injection he with he
      subst he
      exact hi
    · obtain ⟨h1, h2⟩ := oth j e he hj
      rw [h2]
      have hij := h.inn j e h1
      refine own_of_keep hij (fun k hv => hk.block k (hij.lt k hv).2 ?_ ?_ ?_)
      · intro e'
        exact own_blk_ne hij hbi (by decide) (by rw [hv, e'])
      · intro e'
        exact own_ne_own hij hqi (by decide) hv e'.symm
      · intro e'
        exact hj (h.ii j i e d k h1 hS hv e'.symm)
  · intro j l e e' he he' hbe
    by_cases hj : j = i <;> by_cases hl : l = i
    · rw [hj, hl]
    · subst hj
      obtain ⟨h1, h2⟩ := oth l e' he' hl
      rw [updN_same, h2, hb] at hbe
      exact h.bi j l d e' hS h1 hbe
    · subst hl
      obtain ⟨h1, h2⟩ := oth j e he hj
      rw [updN_same, h2, hb] at hbe
      exact h.bi j l e d h1 hS hbe
    · obtain ⟨h1, h2⟩ := oth j e he hj
      obtain ⟨h3, h4⟩ := oth l e' he' hl
      rw [h2, h4] at hbe
      exact h.bi j l e e' h1 h3 hbe
  · intro j l e e' k he he' hv hv'
    by_cases hj : j = i <;> by_cases hl : l = i
    · rw [hj, hl]
    · subst hj
      obtain ⟨h1, h2⟩ := oth l e' he' hl
      rw [updN_same] at hv
      rw [h2] at hv'
      rcases hqn with hqn | hqn
      · exact h.qi j l d e' k hS h1 (hqn.symm.trans hv) hv'
      · have := hqn k hv
        have := ((h.q l e' h1).lt k hv').2
        omega
    · subst hl
      obtain ⟨h1, h2⟩ := oth j e he hj
      rw [updN_same] at hv'
      rw [h2] at hv
      rcases hqn with hqn | hqn
      · exact h.qi j l e d k h1 hS hv (hqn.symm.trans hv')
      · have := hqn k hv'
        have := ((h.q j e h1).lt k hv).2
        omega
    · obtain ⟨h1, h2⟩ := oth j e he hj
      obtain ⟨h3, h4⟩ := oth l e' he' hl
      rw [h2] at hv
      rw [h4] at hv'
      exact h.qi j l e e' k h1 h3 hv hv'
  · intro j l e e' k he he' hv hv'
    by_cases hj : j = i <;> by_cases hl : l = i
    · rw [hj, hl]
    · subst hj
      obtain ⟨h1, h2⟩ := oth l e' he' hl
      rw [updN_same] at hv
      rw [h2] at hv'
      rcases hin with hin | hin
      · exact h.ii j l d e' k hS h1 (hin.symm.trans hv) hv'
      · have := hin k hv
        have := ((h.inn l e' h1).lt k hv').2
        omega
    · subst hl
      obtain ⟨h1, h2⟩ := oth j e he hj
      rw [updN_same] at hv'
      rw [h2] at hv
      rcases hin with hin | hin
      · exact h.ii j l e d k h1 hS hv (hin.symm.trans hv')
      · have := hin k hv'
        have := ((h.inn j e h1).lt k hv).2
        omega
    · obtain ⟨h1, h2⟩ := oth j e he hj
      obtain ⟨h3, h4⟩ := oth l e' he' hl
      rw [h2] at hv
      rw [h4] at hv'
      exact h.ii j l e e' k h1 h3 hv hv'
  · intro j e he
    by_cases hj : j = i
    · subst hj
      rw [updN_same, hb]
      exact h.bb j d hS
    · obtain ⟨h1, h2⟩ := oth j e he hj
      rw [h2]
      exact h.bb j e h1
  · refine h.ext.trans' ⟨hk.os, hk.tape, hk.output, hk.size, fun k hk1 => hk.block k (Nat.lt_of_lt_of_le hk1 h.ext.size) ?_ ?_ ?_⟩
    · have := h.bb i d hS; omega
    · intro e; have := (hqi.lt k e.symm).1; omega
    · intro e; have := (hii.lt k e.symm).1; omega
/-- The world grows alone: all stays. -/
theorem SkAt.more (h : SkAt w0 gs S M w) (hx : Ext w w') : SkAt w0 gs S M w' :=
  ⟨h.tab.ext hx, h.far, fun i d hS => (h.box i d hS).ext hx, fun i d hS => hx.own (h.q i d hS), fun i d hS => hx.own (h.inn i d hS), h.bi, h.qi, h.ii, h.gsb, h.bb, h.ext.trans hx⟩
end
end Go.Proofs.Ytnniicmpbcfinaa
