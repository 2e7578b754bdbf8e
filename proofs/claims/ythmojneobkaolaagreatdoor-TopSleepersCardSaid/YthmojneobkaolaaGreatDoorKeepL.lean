/- A frame by types: from b on only blocks of some types, and some maps, may be other ones. Plain theorems. -/
import Derived.Test.YthmojneobkaolaaGreatDoorMem
namespace Go.Proofs.YthmojneobkaolaaGreatDoor
open Go.RowKit
set_option linter.unusedVariables false

/-- All blocks stay but those of the types L, the blocks G, and the maps M, that lie at b or above. -/
structure KeepL (b : Nat) (L : List TypeId) (G M : List Nat) (w w' : World) : Prop where
  os : w'.os = w.os
  tape : w'.tape = w.tape
  output : w'.output = w.output
  size : w.heap.size ≤ w'.heap.size
  low : ∀ (k : Nat), k < b → k < w.heap.size → w'.heap[k]? = w.heap[k]?
  cells : ∀ (k : Nat) (cs : Array Value) (t : TypeId) (fz : Nat × Nat), w.heap[k]? = some (Obj.cells cs t fz) → t ∉ L → k ∉ G → w'.heap[k]? = w.heap[k]?
  rest : ∀ (k : Nat) (o : Obj), w.heap[k]? = some o → (∀ cs t fz, o ≠ Obj.cells cs t fz) → k ∉ M → w'.heap[k]? = w.heap[k]?
section
variable {b : Nat} {L : List TypeId} {G M : List Nat} {w w' u : World}
theorem lt_of_some {w : World} {k : Nat} {o : Obj} (h : w.heap[k]? = some o) : k < w.heap.size := by
  rcases Nat.lt_or_ge k w.heap.size with hlt | hge
  · exact hlt
  · rw [Array.getElem?_eq_none hge] at h
    cases h
theorem KeepL.of (h : Ext w w') (b : Nat) (L : List TypeId) (G M : List Nat) : KeepL b L G M w w' :=
  ⟨h.os, h.tape, h.output, h.size, fun k _ hk => h.block k hk, fun k _ _ _ hc _ _ => h.block k (lt_of_some hc), fun k _ hc _ _ => h.block k (lt_of_some hc)⟩
theorem KeepL.refl (b : Nat) (L : List TypeId) (G M : List Nat) (w : World) : KeepL b L G M w w := .of (Ext.refl w) b L G M
theorem KeepL.trans (h : KeepL b L G M w w') (k : KeepL b L G M w' u) : KeepL b L G M w u :=
  ⟨k.os.trans h.os, k.tape.trans h.tape, k.output.trans h.output, Nat.le_trans h.size k.size,
    fun i hb hi => (k.low i hb (Nat.lt_of_lt_of_le hi h.size)).trans (h.low i hb hi),
    fun i cs t fz hc ht hg => by
      have h1 := h.cells i cs t fz hc ht hg
      exact (k.cells i cs t fz (h1.trans hc) ht hg).trans h1,
    fun i o hc hn hm => by
      have h1 := h.rest i o hc hn hm
      exact (k.rest i o (h1.trans hc) hn hm).trans h1⟩
theorem KeepL.wide {b' : Nat} {L' : List TypeId} {G' M' : List Nat} (h : KeepL b' L' G' M' w w') (hb : b ≤ b') (hL : ∀ t ∈ L', t ∈ L) (hG : ∀ k ∈ G', k ∈ G) (hM : ∀ k ∈ M', k ∈ M) : KeepL b L G M w w' :=
  ⟨h.os, h.tape, h.output, h.size, fun k hk hs => h.low k (by omega) hs, fun k cs t fz hc ht hg => h.cells k cs t fz hc (fun e => ht (hL t e)) (fun e => hg (hG k e)), fun k o hc hn hm => h.rest k o hc hn (fun e => hm (hM k e))⟩
theorem KeepL.ext (h : KeepL b L G M w w') {w0 : World} (hx : Ext w0 w) (hb : w0.heap.size ≤ b) : Ext w0 w' :=
  ⟨h.os.trans hx.os, h.tape.trans hx.tape, h.output.trans hx.output, Nat.le_trans hx.size h.size, fun k hk => (h.low k (by omega) (Nat.lt_of_lt_of_le hk hx.size)).trans (hx.block k hk)⟩
theorem KeepL.blk (h : KeepL b L G M w w') {g : Nat} {t : TypeId} {cs : Array Value} (hb : Blk w g t cs) (ht : t ∉ L) (hg : g ∉ G) : Blk w' g t cs := (h.cells g cs t (0, 0) hb ht hg).trans hb
theorem KeepL.own (h : KeepL b L G M w w') {base size n : Nat} {e : TypeId} {v : Value} {xs : List Value} (ho : w.ownsRow base e size v n xs) (he : e ∉ L) (hg : ∀ k, v.ownBlock = some k → k ∉ G) : w'.ownsRow base e size v n xs := by
  refine ⟨ho.1, ?_⟩
  rcases ho.2 with hn | ⟨g, cap, cur, rfl, hb, hgg, rest⟩
  · exact .inl hn
  · exact .inr ⟨g, cap, cur, rfl, hb, h.blk hgg he (hg g rfl), rest⟩
theorem KeepL.set {g : Nat} {t : TypeId} {cs : Array Value} (hb : Blk w g t cs) (ht : t ∈ L ∨ g ∈ G) (hg : b ≤ g) (i : Nat) (v : Value) : KeepL b L G M w (w.setCell ⟨g, i, none⟩ v) :=
  have hne : ∀ k, k ≠ g → (w.setCell ⟨g, i, none⟩ v).heap[k]? = w.heap[k]? := fun k hk => Below.heap_setCell w ⟨g, i, none⟩ v k hk
  ⟨rfl, rfl, rfl, by simp, fun k hk _ => hne k (by omega), fun k cs' t' fz hc ht' hg' => hne k (fun e => by
      subst e
      unfold Blk at hb
      rw [hb] at hc
      injection hc with hc
      injection hc with _ hc
      subst hc
      exact ht.elim ht' hg'), fun k o hc hn _ => hne k (fun e => by
      subst e
      unfold Blk at hb
      rw [hb] at hc
      injection hc with hc
      exact hn _ _ _ hc.symm)⟩
theorem KeepL.row {g : Nat} {t : TypeId} {cs : Array Value} (hb : Blk w g t cs) (ht : t ∈ L ∨ g ∈ G) (hg : b ≤ g) {w' : World} (hw : w.grownBy w' (some g)) : KeepL b L G M w w' :=
  have hne : ∀ k, k < w.heap.size → k ≠ g → w'.heap[k]? = w.heap[k]? := fun k hk hn => hw.block k hk (fun e => hn (by injection e))
  ⟨hw.os, hw.tape, hw.output, hw.size, fun k hk hs => hne k hs (by omega), fun k cs' t' fz hc ht' hg' => hne k (lt_of_some hc) (fun e => by
      subst e
      unfold Blk at hb
      rw [hb] at hc
      injection hc with hc
      injection hc with _ hc
      subst hc
      exact ht.elim ht' hg'), fun k o hc hn _ => hne k (lt_of_some hc) (fun e => by
      subst e
      unfold Blk at hb
      rw [hb] at hc
      injection hc with hc
      exact hn _ _ _ hc.symm)⟩
theorem KeepL.grown {base size n : Nat} {e : TypeId} {v : Value} {xs : List Value} (ho : w.ownsRow base e size v n xs) (he : e ∈ L) (hb : b ≤ base) (hg : w.grownBy w' v.ownBlock) : KeepL b L G M w w' := by
  have hne : ∀ k, k < w.heap.size → some k ≠ v.ownBlock → w'.heap[k]? = w.heap[k]? := fun k hk hn => hg.block k hk hn
  refine ⟨hg.os, hg.tape, hg.output, hg.size, fun k hk hs => hne k hs ?_, fun k cs' t' fz hc ht' _ => hne k (lt_of_some hc) ?_, fun k o hc hn _ => hne k (lt_of_some hc) ?_⟩
  · rcases ho.2 with ⟨rfl, _⟩ | ⟨g, cap, cur, rfl, hbg, hh, _⟩
    · simp [Value.ownBlock]
    · simp only [Value.ownBlock, ne_eq, Option.some.injEq]
      omega
  · rcases ho.2 with ⟨rfl, _⟩ | ⟨g, cap, cur, rfl, hbg, hh, _⟩
    · simp [Value.ownBlock]
    · simp only [Value.ownBlock, ne_eq, Option.some.injEq]
      rintro rfl
      rw [hh] at hc
      injection hc with hc
      injection hc with _ hc
      subst hc
      exact ht' he
  · rcases ho.2 with ⟨rfl, _⟩ | ⟨g, cap, cur, rfl, hbg, hh, _⟩
    · simp [Value.ownBlock]
    · simp only [Value.ownBlock, ne_eq, Option.some.injEq]
      rintro rfl
      rw [hh] at hc
      injection hc with hc
      exact hn _ _ _ hc.symm
end
end Go.Proofs.YthmojneobkaolaaGreatDoor
