/- The pair of ends, as plain data and in memory; what a call at one end, or at a way, does to it. -/
import Derived.Test.YtkfpmljlgpobjaaComeF
import Derived.Test.YtkfpmljlgpobjaaOutAny
import Derived.Test.YtkfpmljlgpobjaaStr
namespace Go.Proofs.Ytkfpmljlgpobjaa
open Go.RowKit
set_option linter.unusedVariables false

structure PairD where
  e : Nat → EndD
  y : Nat → List SegD
  p : Nat → List UInt8
  g : Nat → List UInt8
def upd {α : Type} (f : Nat → α) (i : Nat) (x : α) : Nat → α := fun j => if j = i then x else f j
theorem upd_same {α : Type} (f : Nat → α) (i : Nat) (x : α) : upd f i x i = x := if_pos rfl
theorem upd_other {α : Type} (f : Nat → α) {i j : Nat} (x : α) (h : j ≠ i) : upd f i x j = f j := if_neg h
abbrev strV (l : List UInt8) : Value := .string (str l)
/-- Where the pair lies. -/
structure PairL where
  b : Nat → Nat
  vo : Nat → Value
  vi : Nat → Value
  vy : Nat → Value
  ls : Nat → List (SegD × Value)
def pairC (L : PairL) (d : PairD) : Array Value := #[.pointer (some ⟨L.b 0, 0, none⟩), .pointer (some ⟨L.b 1, 0, none⟩), L.vy 0, L.vy 1, strV (d.p 0), strV (d.p 1), strV (d.g 0), strV (d.g 1)]
structure PairM (w0 : World) (gp : Nat) (L : PairL) (d : PairD) (w : World) : Prop where
  box : Blk w gp 43 (pairC L d)
  end_ : ∀ i, i < 2 → EndM w (L.b i) (d.e i) (L.vo i) (L.vi i)
  ok : ∀ i, i < 2 → (d.e i).Ok
  way : ∀ i, i < 2 → w.ownsRow w0.heap.size 49 5 (L.vy i) (d.y i).length ((L.ls i).flatMap segC)
  segs : ∀ i, i < 2 → (L.ls i).map (·.1) = d.y i
  data : ∀ i, i < 2 → ∀ x ∈ L.ls i, SegAt w w0.heap.size x
  sok : ∀ i, i < 2 → ∀ s ∈ d.y i, s.Ok
  apart : ∀ k, foot (L.b 0) (L.vo 0) (L.vi 0) k → ¬ foot (L.b 1) (L.vo 1) (L.vi 1) k
  ways : ∀ k, (L.vy 0).ownBlock = some k → (L.vy 1).ownBlock ≠ some k
  free : ∀ i, i < 2 → ∀ x ∈ L.ls i, ∀ k, x.2.ownBlock = some k → ∀ j, j < 2 → ¬ foot (L.b j) (L.vo j) (L.vi j) k
  lo : w0.heap.size ≤ gp ∧ ∀ i, i < 2 → ∀ k, foot (L.b i) (L.vo i) (L.vi i) k → w0.heap.size ≤ k
  ext : Ext w0 w
def PairAt (w0 : World) (gp : Nat) (b : Nat → Nat) (d : PairD) (w : World) : Prop := ∃ L, PairM w0 gp L d w ∧ L.b = b

theorem lt2 {i : Nat} (h : i < 2) : i = 0 ∨ i = 1 := by omega
section
variable {w0 w w' : World} {gp : Nat} {L : PairL} {d : PairD}
theorem PairM.apart2 (h : PairM w0 gp L d w) {i j : Nat} (hi : i < 2) (hj : j < 2) (hne : i ≠ j) : ∀ k, foot (L.b i) (L.vo i) (L.vi i) k → ¬ foot (L.b j) (L.vo j) (L.vi j) k := by
  rcases lt2 hi with rfl | rfl <;> rcases lt2 hj with rfl | rfl
  · exact absurd rfl hne
  · exact h.apart
  · exact fun k hk hk' => h.apart k hk' hk
  · exact absurd rfl hne
/-- What is of another type than an end's blocks is not of an end. -/
theorem PairM.not_foot (h : PairM w0 gp L d w) {k : Nat} {t : TypeId} {cs : Array Value} (hb : Blk w k t cs) (h1 : t ≠ 60) (h2 : t ≠ 5) {i : Nat} (hi : i < 2) : ¬ foot (L.b i) (L.vo i) (L.vi i) k := by
  have he := h.end_ i hi
  rintro (rfl | hx | hx)
  · exact Blk.ne_ hb he.box h1 rfl
  · exact own_blk_ne he.out hb h2.symm hx
  · exact own_blk_ne he.inn hb h2.symm hx
theorem own_not_foot (h : PairM w0 gp L d w) {base size n : Nat} {t : TypeId} {v : Value} {xs : List Value} (ho : w.ownsRow base t size v n xs) (h1 : t ≠ 60) (h2 : t ≠ 5) {i : Nat} (hi : i < 2) {k : Nat} (hk : v.ownBlock = some k) : ¬ foot (L.b i) (L.vo i) (L.vi i) k := by
  rcases ho.2 with ⟨rfl, _⟩ | ⟨g', cap, cur, rfl, _, hh, _⟩
  · simp [Value.ownBlock] at hk
  · have e1 : g' = k := by simpa [Value.ownBlock] using hk
    subst e1
    exact h.not_foot hh h1 h2 hi
theorem PairM.gp_not_foot (h : PairM w0 gp L d w) {i : Nat} (hi : i < 2) : ¬ foot (L.b i) (L.vo i) (L.vi i) gp := h.not_foot h.box (by decide) (by decide) hi

/-- A call at end i. -/
theorem PairM.endOp (h : PairM w0 gp L d w) {i : Nat} (hi : i < 2) {e' : EndD} (ok' : e'.Ok) (hop : EndOp w (L.b i) (L.vo i) (L.vi i) e' w') :
    ∃ L', PairM w0 gp L' { d with e := upd d.e i e' } w' ∧ L'.b = L.b ∧ L'.vy = L.vy ∧ L'.ls = L.ls ∧ (∀ k, k < w.heap.size → (∀ j, j < 2 → ¬ foot (L.b j) (L.vo j) (L.vi j) k) → ∀ j, j < 2 → ¬ foot (L'.b j) (L'.vo j) (L'.vi j) k) := by
  obtain ⟨vo', vi', hm, hk, hf⟩ := hop
  have hlo : ∀ k, foot (L.b i) (L.vo i) (L.vi i) k → w0.heap.size ≤ k := h.lo.2 i hi
  have hs := h.ext.size
  refine ⟨{ L with vo := upd L.vo i vo', vi := upd L.vi i vi' }, ⟨?_, ?_, ?_, ?_, h.segs, ?_, h.sok, ?_, h.ways, ?_, ?_, ?_⟩, rfl, rfl, rfl, ?_⟩
  rotate_left 9
  · intro k hk1 hn j hj hfk
    dsimp only at hfk
    by_cases e : j = i
    · subst e
      rw [upd_same, upd_same] at hfk
      rcases hf k hfk with h2 | h2
      · exact hn j hj h2
      · omega
    · rw [upd_other _ _ e, upd_other _ _ e] at hfk
      exact hn j hj hfk
  · exact hk.blk h.box (h.gp_not_foot hi)
  · intro j hj
    dsimp only
    by_cases e : j = i
    · subst e; rw [upd_same, upd_same, upd_same]; exact hm
    · rw [upd_other _ _ e, upd_other _ _ e, upd_other _ _ e]
      exact (h.end_ j hj).keep hk (h.apart2 hj hi e)
  · intro j hj
    dsimp only
    by_cases e : j = i
    · subst e; rw [upd_same]; exact ok'
    · rw [upd_other _ _ e]; exact h.ok j hj
  · intro j hj
    exact hk.own (h.way j hj) (fun k hv => own_not_foot h (h.way j hj) (by decide) (by decide) hi hv)
  · intro j hj x hx
    exact hk.own (h.data j hj x hx) (fun k hv => h.free j hj x hx k hv i hi)
  · intro k h0 h1
    have hx : ∀ j, j < 2 → j ≠ i → ∀ k, foot (L.b j) (L.vo j) (L.vi j) k → ¬ foot (L.b i) vo' vi' k := fun j hj hne k hkk hk' => by
      rcases hf k hk' with h2 | h2
      · exact h.apart2 hj hi hne k hkk h2
      · have := (h.end_ j hj).lt hkk
        omega
    dsimp only at h0 h1
    rcases lt2 hi with rfl | rfl
    · rw [upd_same, upd_same] at h0
      rw [upd_other _ _ (by decide), upd_other _ _ (by decide)] at h1
      exact hx 1 (by omega) (by decide) k h1 h0
    · rw [upd_other _ _ (by decide), upd_other _ _ (by decide)] at h0
      rw [upd_same, upd_same] at h1
      exact hx 0 (by omega) (by decide) k h0 h1
  · intro j hj x hx k hv m hm2 hfm
    dsimp only at hfm
    by_cases e : m = i
    · subst e
      rw [upd_same, upd_same] at hfm
      rcases hf k hfm with h2 | h2
      · exact h.free j hj x hx k hv m hm2 h2
      · have := ((h.data j hj x hx).lt k hv).2
        omega
    · rw [upd_other _ _ e, upd_other _ _ e] at hfm
      exact h.free j hj x hx k hv m hm2 hfm
  · refine ⟨h.lo.1, fun j hj k hfk => ?_⟩
    dsimp only at hfk
    by_cases e : j = i
    · subst e
      rw [upd_same, upd_same] at hfk
      rcases hf k hfk with h2 | h2
      · exact hlo k h2
      · omega
    · rw [upd_other _ _ e, upd_other _ _ e] at hfk
      exact h.lo.2 j hj k hfk
  · exact Ext.of ⟨hk.os.trans h.ext.os, hk.tape.trans h.ext.tape, hk.output.trans h.ext.output, Nat.le_trans hs hk.size, fun k hk1 => (hk.block k (Nat.lt_of_lt_of_le hk1 hs) (fun hf2 => by have := hlo k hf2; omega)).trans (h.ext.block k hk1)⟩
/-- New blocks. -/
theorem PairM.extend (h : PairM w0 gp L d w) (hx : Ext w w') : PairM w0 gp L d w' :=
  ⟨h.box.ext hx, fun i hi => (h.end_ i hi).ext hx, h.ok, fun i hi => hx.own (h.way i hi), h.segs, fun i hi x hm => hx.own (h.data i hi x hm), h.sok, h.apart, h.ways, h.free, h.lo, h.ext.trans hx⟩
/-- Only blocks that are of no end are touched; what the ways are follows. -/
theorem PairM.boxed (h : PairM w0 gp L d w) {L' : PairL} {d' : PairD} {F : Nat → Prop} (hk : KeepF F w w') (hF : ∀ i, i < 2 → ∀ k, foot (L.b i) (L.vo i) (L.vi i) k → ¬ F k) (hlo : ∀ k, F k → w0.heap.size ≤ k) (hb : Blk w' gp 43 (pairC L' d'))
    (e1 : L'.b = L.b) (e2 : L'.vo = L.vo) (e3 : L'.vi = L.vi) (e4 : d'.e = d.e)
    (hway : ∀ i, i < 2 → w'.ownsRow w0.heap.size 49 5 (L'.vy i) (d'.y i).length ((L'.ls i).flatMap segC)) (hsegs : ∀ i, i < 2 → (L'.ls i).map (·.1) = d'.y i) (hdata : ∀ i, i < 2 → ∀ x ∈ L'.ls i, SegAt w' w0.heap.size x)
    (hsok : ∀ i, i < 2 → ∀ s ∈ d'.y i, s.Ok) (hways : ∀ k, (L'.vy 0).ownBlock = some k → (L'.vy 1).ownBlock ≠ some k)
    (hfree : ∀ i, i < 2 → ∀ x ∈ L'.ls i, ∀ k, x.2.ownBlock = some k → ∀ j, j < 2 → ¬ foot (L.b j) (L.vo j) (L.vi j) k) : PairM w0 gp L' d' w' := by
  have hs := h.ext.size
  refine ⟨hb, ?_, by rw [e4]; exact h.ok, hway, hsegs, hdata, hsok, by rw [e1, e2, e3]; exact h.apart, hways, by rw [e1, e2, e3]; exact hfree, ⟨h.lo.1, by rw [e1, e2, e3]; exact h.lo.2⟩, ?_⟩
  · intro i hi
    rw [e1, e2, e3, e4]
    exact (h.end_ i hi).keep hk (hF i hi)
  · exact Ext.of ⟨hk.os.trans h.ext.os, hk.tape.trans h.ext.tape, hk.output.trans h.ext.output, Nat.le_trans hs hk.size, fun k hk1 => (hk.block k (Nat.lt_of_lt_of_le hk1 hs) (fun hf => by have := hlo k hf; omega)).trans (h.ext.block k hk1)⟩
theorem PairM.cells (h : PairM w0 gp L d w) : w.cell? ⟨gp, 0, none⟩ = some (.pointer (some ⟨L.b 0, 0, none⟩)) ∧ w.cell? ⟨gp, 1, none⟩ = some (.pointer (some ⟨L.b 1, 0, none⟩)) ∧ w.cell? ⟨gp, 2, none⟩ = some (L.vy 0) ∧ w.cell? ⟨gp, 3, none⟩ = some (L.vy 1) :=
  ⟨h.box.cell 0, h.box.cell 1, h.box.cell 2, h.box.cell 3⟩
end
/-- A way gets more, behind an append and a store of it. -/
theorem PairM.pushed {w0 w w7 : World} {gp : Nat} {L : PairL} {d : PairD} (h : PairM w0 gp L d w) {j : Nat} (hj : j < 2) {more : List SegD} {ls1 : List (SegD × Value)} {Ay A7 : Option Addr} {cy c7 k1 : Nat}
    (hvy : L.vy j = .slice Ay (d.y j).length cy) (hm1 : ls1.map (·.1) = more) (hk1 : more.length = k1) (hsd : ∀ x ∈ ls1, SegAt w w0.heap.size x) (hsok : ∀ s ∈ more, s.Ok) (hnew : ∀ x ∈ ls1, ∀ k, x.2.ownBlock = some k → ∀ i, i < 2 → ¬ foot (L.b i) (L.vo i) (L.vi i) k)
    (ho7 : w7.ownsRow w0.heap.size 49 5 (.slice A7 ((d.y j).length + k1) c7) ((d.y j).length + k1) ((L.ls j).flatMap segC ++ ls1.flatMap segC)) (hg7 : w.grownBy w7 (Value.ownBlock (.slice Ay (d.y j).length cy)))
    (ha7 : Value.ownBlock (.slice A7 ((d.y j).length + k1) c7) = Value.ownBlock (.slice Ay (d.y j).length cy) ∨ Value.ownBlock (.slice A7 ((d.y j).length + k1) c7) = some w.heap.size) :
    ∃ L', PairM w0 gp L' { d with y := upd d.y j (d.y j ++ more) } (w7.setCell ⟨gp, 2 + j, none⟩ (.slice A7 ((d.y j).length + k1) c7)) ∧ L'.b = L.b := by
  have hwj := h.way j hj
  rw [hvy] at hwj
  have hgp7 : Blk w7 gp 43 (pairC L d) := h.box.grown hg7 (fun e => own_blk_ne hwj h.box (by decide) e.symm)
  have hlen : (d.y j ++ more).length = (d.y j).length + k1 := by rw [List.length_append, hk1]
  have hsz : w7.heap.size = (w7.setCell ⟨gp, 2 + j, none⟩ (.slice A7 ((d.y j).length + k1) c7)).heap.size := by simp
  have hset : ∀ k, k ≠ gp → (w7.setCell ⟨gp, 2 + j, none⟩ (.slice A7 ((d.y j).length + k1) c7)).heap[k]? = w7.heap[k]? := fun k hk => Below.heap_setCell w7 ⟨gp, 2 + j, none⟩ _ k hk
  have hK : KeepF (fun k => k = gp ∨ Value.ownBlock (.slice Ay (d.y j).length cy) = some k) w (w7.setCell ⟨gp, 2 + j, none⟩ (.slice A7 ((d.y j).length + k1) c7)) :=
    ⟨hg7.os, hg7.tape, hg7.output, by rw [← hsz]; exact hg7.size, fun k hk hn => (hset k (fun e => hn (.inl e))).trans (hg7.block k hk (fun e => hn (.inr e.symm)))⟩
  have keep8 : ∀ {base size n : Nat} {e : TypeId} {v : Value} {xs : List Value}, w.ownsRow base e size v n xs → e ≠ 43 → e ≠ 49 → (w7.setCell ⟨gp, 2 + j, none⟩ (.slice A7 ((d.y j).length + k1) c7)).ownsRow base e size v n xs := fun ho n1 n2 =>
    hK.own ho (fun k hv hf => by
      rcases hf with rfl | hf
      · exact own_blk_ne ho h.box n1 hv
      · exact own_ne_own ho hwj n2 hv hf)
  have hblk : Blk (w7.setCell ⟨gp, 2 + j, none⟩ (.slice A7 ((d.y j).length + k1) c7)) gp 43 (pairC { L with vy := upd L.vy j (.slice A7 ((d.y j).length + k1) c7), ls := upd L.ls j (L.ls j ++ ls1) } { d with y := upd d.y j (d.y j ++ more) }) := by
    have := hgp7.set_ (2 + j) (.slice A7 ((d.y j).length + k1) c7)
    rcases lt2 hj with rfl | rfl
    · exact this
    · exact this
  refine ⟨{ L with vy := upd L.vy j (.slice A7 ((d.y j).length + k1) c7), ls := upd L.ls j (L.ls j ++ ls1) }, h.boxed hK ?_ ?_ hblk rfl rfl rfl rfl ?_ ?_ ?_ ?_ ?_ ?_, rfl⟩
  · intro i hi k hf hor
    rcases hor with rfl | hor
    · exact h.gp_not_foot hi hf
    · exact own_not_foot h hwj (by decide) (by decide) hi hor hf
  · rintro k (rfl | hor)
    · exact h.lo.1
    · exact (hwj.lt k hor).1
  · intro i hi
    dsimp only
    by_cases e : i = j
    · subst e
      rw [upd_same, upd_same, upd_same, hlen, List.flatMap_append]
      exact own_far (p := ⟨gp, 2 + i, none⟩) ho7 (own_blk_ne ho7 hgp7 (by decide)) _
    · rw [upd_other _ _ e, upd_other _ _ e, upd_other _ _ e]
      refine hK.own (h.way i hi) (fun k hv hf => ?_)
      rcases hf with rfl | hf
      · exact own_blk_ne (h.way i hi) h.box (by decide) hv
      · rw [← hvy] at hf
        rcases lt2 hi with rfl | rfl <;> rcases lt2 hj with rfl | rfl
        · exact e rfl
        · exact h.ways k hv hf
        · exact h.ways k hf hv
        · exact e rfl
  · intro i hi
    dsimp only
    by_cases e : i = j
    · subst e; rw [upd_same, upd_same, List.map_append, h.segs i hi, hm1]
    · rw [upd_other _ _ e, upd_other _ _ e]; exact h.segs i hi
  · intro i hi x hx
    dsimp only at hx
    by_cases e : i = j
    · subst e
      rw [upd_same] at hx
      rcases List.mem_append.1 hx with hx | hx
      · exact keep8 (h.data i hi x hx) (by decide) (by decide)
      · exact keep8 (hsd x hx) (by decide) (by decide)
    · rw [upd_other _ _ e] at hx
      exact keep8 (h.data i hi x hx) (by decide) (by decide)
  · intro i hi s hs
    dsimp only at hs
    by_cases e : i = j
    · subst e
      rw [upd_same] at hs
      rcases List.mem_append.1 hs with hs | hs
      · exact h.sok i hi s hs
      · exact hsok s hs
    · rw [upd_other _ _ e] at hs
      exact h.sok i hi s hs
  · intro k h0 h1
    dsimp only at h0 h1
    have fresh : ∀ i, i < 2 → i ≠ j → ∀ k, (L.vy i).ownBlock = some k → Value.ownBlock (.slice A7 ((d.y j).length + k1) c7) ≠ some k := fun i hi hne k hk hk' => by
      rcases ha7 with ha | ha
      · rw [ha, ← hvy] at hk'
        rcases lt2 hi with rfl | rfl <;> rcases lt2 hj with rfl | rfl
        · exact hne rfl
        · exact h.ways k hk hk'
        · exact h.ways k hk' hk
        · exact hne rfl
      · rw [ha] at hk'
        injection hk' with hk'
        have := ((h.way i hi).lt k hk).2
        omega
    rcases lt2 hj with rfl | rfl
    · rw [upd_same] at h0
      rw [upd_other _ _ (by decide)] at h1
      exact fresh 1 (by omega) (by decide) k h1 h0
    · rw [upd_other _ _ (by decide)] at h0
      rw [upd_same] at h1
      exact fresh 0 (by omega) (by decide) k h0 h1
  · intro i hi x hx k hk m hm
    dsimp only at hx
    by_cases e : i = j
    · subst e
      rw [upd_same] at hx
      rcases List.mem_append.1 hx with hx | hx
      · exact h.free i hi x hx k hk m hm
      · exact hnew x hx k hk m hm
    · rw [upd_other _ _ e] at hx
      exact h.free i hi x hx k hk m hm
end Go.Proofs.Ytkfpmljlgpobjaa
