/- The world of a plan in memory: its descriptors' maps, pipes, runs, waits. Plain theorems. -/
import Derived.Test.YtikpdhkjkmbomaaPlTok
import Derived.Test.YtikpdhkjkmbomaaIntsV
import Derived.Test.YtikpdhkjkmbomaaFlat
import Derived.Test.YtikpdhkjkmbomaaArr
namespace Go.Proofs.Ytikpdhkjkmbomaa
open Go.RowKit
set_option linter.unusedVariables false

abbrev wdT : TypeId := 47
abbrev mpT : TypeId := 44
def mapsV (ms : List Nat) : List Value := ms.map fun b => .map (some b)
theorem mapsV_len (ms : List Nat) : (mapsV ms).length = ms.length := by simp [mapsV]
theorem FdAt.heap {w : World} {b K : Nat} {f : FdT} (h : FdAt w b K f) : ∃ es c, w.heap[b]? = some (.map es c) := by
  obtain ⟨D, ⟨es, clock, hb, -⟩, -⟩ := h.m
  exact ⟨es, clock, hb⟩
theorem FdAt.lt {w : World} {b K : Nat} {f : FdT} (h : FdAt w b K f) : b < w.heap.size := h.m.lt
theorem FdAt.ne_blk {w : World} {b K g : Nat} {f : FdT} {t : TypeId} {cs : Array Value} (h : FdAt w b K f) (hb : Blk w g t cs) : b ≠ g := by
  rintro rfl
  obtain ⟨es, c, hm⟩ := h.heap
  unfold Blk at hb
  rw [hm] at hb
  cases hb
theorem FdAt.ne_own {w : World} {b K base size n : Nat} {f : FdT} {e : TypeId} {v : Value} {xs : List Value} (h : FdAt w b K f) (ho : w.ownsRow base e size v n xs) : v.ownBlock ≠ some b := by
  rcases ho.2 with ⟨rfl, _⟩ | ⟨g, cap, cur, rfl, _, hh, _⟩
  · simp [Value.ownBlock]
  · intro hg
    have : g = b := by simpa [Value.ownBlock] using hg
    subst this
    obtain ⟨es, c, hm⟩ := h.heap
    rw [hm] at hh
    cases hh
theorem own_own_ne {w : World} {b1 b2 s1 s2 n1 n2 : Nat} {e1 e2 : TypeId} {v1 v2 : Value} {x1 x2 : List Value} (h1 : w.ownsRow b1 e1 s1 v1 n1 x1) (h2 : w.ownsRow b2 e2 s2 v2 n2 x2) (hne : e1 ≠ e2) (j : Nat) (hj : v1.ownBlock = some j) : v2.ownBlock ≠ some j := by
  rcases h1.2 with ⟨rfl, _⟩ | ⟨g, cap, cur, rfl, _, hh, _⟩
  · cases hj
  · have : g = j := by simpa [Value.ownBlock] using hj
    subst this
    exact own_blk_ne (t := e1) (g := g) (cs := cur) h2 hh (fun e => hne e.symm)
theorem own_keptB {w w' : World} {base size n : Nat} {e : TypeId} {v : Value} {xs : List Value} {row : Option Nat} (h : w.ownsRow base e size v n xs) (hg : w.grownBy w' row) (hne : ∀ j, v.ownBlock = some j → row ≠ some j) : w'.ownsRow base e size v n xs :=
  h.kept hg (by
    cases hv : v.ownBlock with
    | none => exact .inl rfl
    | some j => exact .inr (fun e => hne j hv e.symm))
/-- Below B all cells that are no world's and no maps' row are as they were in wb. -/
def KeepB (B : Nat) (wb w : World) : Prop := ∀ k, k < B → ∀ cs t fr, wb.heap[k]? = some (.cells cs t fr) → t ≠ wdT → t ≠ mpT → w.heap[k]? = wb.heap[k]?
theorem KeepB.refl (B : Nat) (w : World) : KeepB B w w := fun _ _ _ _ _ _ _ _ => rfl
theorem KeepB.step {B : Nat} {wb w w' : World} (h : KeepB B wb w) (hs : ∀ k cs t fr, k < B → w.heap[k]? = some (.cells cs t fr) → t ≠ wdT → t ≠ mpT → w'.heap[k]? = w.heap[k]?) : KeepB B wb w' := fun k hk cs t fr hc h1 h2 => by
  have e := h k hk cs t fr hc h1 h2
  rw [hs k cs t fr hk (e.trans hc) h1 h2, e]
theorem KeepB.ext {B : Nat} {wb w w' : World} (h : KeepB B wb w) (hB : B ≤ w.heap.size) (hx : Ext w w') : KeepB B wb w' := h.step fun k cs t fr hk _ _ _ => hx.block k (by omega)
theorem KeepB.set {B g i : Nat} {wb w : World} {u : Value} {cs : Array Value} (h : KeepB B wb w) (hb : Blk w g wdT cs) : KeepB B wb (w.setCell ⟨g, i, none⟩ u) := h.step fun k cs' t fr hk hc h1 _ => Below.heap_setCell w _ u k (fun e => by
  subst e
  unfold Blk at hb
  rw [hc] at hb
  injection hb with hb
  injection hb with _ hb
  exact h1 hb)
theorem KeepB.grown {B : Nat} {wb w w' : World} {row : Option Nat} (h : KeepB B wb w) (hB : B ≤ w.heap.size) (hg : w.grownBy w' row) (hr : ∀ k cs t fr, k < B → w.heap[k]? = some (.cells cs t fr) → t ≠ wdT → t ≠ mpT → some k ≠ row) : KeepB B wb w' := h.step fun k cs t fr hk hc h1 h2 => hg.block k (by omega) (hr k cs t fr hk hc h1 h2)
theorem KeepB.rowF {B base n : Nat} {wb w w' : World} {v : Value} {xs : List Value} (h : KeepB B wb w) (hB : B ≤ w.heap.size) (ho : w.ownsRow base mpT 1 v n xs) (hg : w.grownBy w' v.ownBlock) : KeepB B wb w' := h.grown hB hg fun k cs t fr hk hc h1 h2 e => by
  rcases ho.2 with ⟨rfl, _⟩ | ⟨g, cap, cur, rfl, _, hh, _⟩
  · cases e
  · have : k = g := by simpa [Value.ownBlock] using e
    subst this
    rw [hc] at hh
    injection hh with hh
    injection hh with _ hh
    exact h2 hh
/-- The world: gw its box, ms the maps' blocks; below be the cells of wb. -/
structure WAt (w0 wb : World) (be gw K N E : Nat) (d : WT) (ms : List Nat) (Af : Option Addr) (cf : Nat) (Ae : Option Addr) (ce : Nat) (w : World) : Prop where
  box : Blk w gw wdT #[.slice Af N cf, .int .i64 (d.pipes : Int), .slice Ae E ce, .int .i64 (d.waits : Int)]
  rowF : w.ownsRow w0.heap.size mpT 1 (.slice Af N cf) N (mapsV ms)
  rowE : w.ownsRow be 3 1 (.slice Ae E ce) E (intsV d.execs)
  lm : ms.length = N
  lf : d.fds.length = N
  le : d.execs.length = E
  each : ∀ i (h : i < ms.length) (h' : i < d.fds.length), FdAt w ms[i] K d.fds[i]
  nd : ms.Nodup
  lo : ∀ b ∈ ms, w0.heap.size ≤ b
  gb : w0.heap.size ≤ gw
  ext : Ext w0 w
  keep : KeepB be wb w
  bl : be ≤ w.heap.size
  b0 : w0.heap.size ≤ be
section
variable {w0 wb w w' : World} {be gw K N E : Nat} {d : WT} {ms : List Nat} {Af Ae : Option Addr} {cf ce : Nat}
theorem WAt.to (h : WAt w0 wb be gw K N E d ms Af cf Ae ce w) (hx : Ext w w') : WAt w0 wb be gw K N E d ms Af cf Ae ce w' :=
  ⟨h.box.ext hx, hx.own h.rowF, hx.own h.rowE, h.lm, h.lf, h.le, fun i a b => (h.each i a b).ext hx, h.nd, h.lo, h.gb, h.ext.trans hx, h.keep.ext h.bl hx, Nat.le_trans h.bl hx.size, h.b0⟩
theorem WAt.mono {K' : Nat} (h : WAt w0 wb be gw K N E d ms Af cf Ae ce w) (hK : K ≤ K') : WAt w0 wb be gw K' N E d ms Af cf Ae ce w :=
  ⟨h.box, h.rowF, h.rowE, h.lm, h.lf, h.le, fun i a b => (h.each i a b).mono hK, h.nd, h.lo, h.gb, h.ext, h.keep, h.bl, h.b0⟩
theorem nodup_ne {l : List Nat} (h : l.Nodup) {i j : Nat} (hi : i < l.length) (hj : j < l.length) (hne : i ≠ j) : l[i] ≠ l[j] := by
  rcases Nat.lt_or_gt_of_ne hne with h1 | h1
  · exact List.pairwise_iff_getElem.1 h i j hi hj h1
  · exact fun e => List.pairwise_iff_getElem.1 h j i hj hi h1 e.symm
/-- One map is another one now. -/
theorem WAt.turn (h : WAt w0 wb be gw K N E d ms Af cf Ae ce w) (i : Nat) (hi : i < ms.length) {K' : Nat} (hK : K ≤ K') {f : FdT} (hm : FdAt w' ms[i] K' f) (hg : w.grownBy w' (some ms[i])) : WAt w0 wb be gw K' N E { d with fds := d.fds.set i f } ms Af cf Ae ce w' := by
  have hid : i < d.fds.length := by rw [h.lf, ← h.lm]; exact hi
  have hmi := h.each i hi hid
  refine ⟨h.box.grown hg (fun e => hmi.ne_blk h.box (by injection e with e; exact e.symm)), own_keptB h.rowF hg (fun j hj e => hmi.ne_own h.rowF (by rw [hj, ← e])), own_keptB h.rowE hg (fun j hj e => hmi.ne_own h.rowE (by rw [hj, ← e])), h.lm, by simp [h.lf], h.le, fun j a b => ?_, h.nd, h.lo, h.gb, h.ext.grown hg (fun k hk => by injection hk with hk; rw [← hk]; exact h.lo _ (List.getElem_mem hi)), h.keep.grown h.bl hg (fun k cs t fr hk hc h1 h2 e => by
    injection e with e
    obtain ⟨es, c, hm'⟩ := hmi.heap
    rw [← e, hc] at hm'
    cases hm'), Nat.le_trans h.bl hg.size, h.b0⟩
  by_cases e : j = i
  · subst e
    rw [List.getElem_set_self]
    exact hm
  · rw [List.getElem_set_ne (fun e' => e e'.symm)]
    exact ((h.each j a (by simpa using b)).kept hg (fun e' => nodup_ne h.nd a hi e (by injection e'))).mono hK
/-- A cell of the box is another one now. -/
theorem WAt.cell (h : WAt w0 wb be gw K N E d ms Af cf Ae ce w) (i : Nat) (u : Value) {d' : WT} (hf : d'.fds = d.fds) (he : d'.execs = d.execs)
    (hb : (#[Value.slice Af N cf, .int .i64 (d.pipes : Int), .slice Ae E ce, .int .i64 (d.waits : Int)] : Array Value).setIfInBounds i u = #[.slice Af N cf, .int .i64 (d'.pipes : Int), .slice Ae E ce, .int .i64 (d'.waits : Int)]) : WAt w0 wb be gw K N E d' ms Af cf Ae ce (w.setCell ⟨gw, i, none⟩ u) := by
  refine ⟨by rw [← hb]; exact h.box.set_ i u, own_far h.rowF (p := ⟨gw, i, none⟩) (own_blk_ne h.rowF h.box (by decide)) u, by rw [he]; exact own_far h.rowE (p := ⟨gw, i, none⟩) (own_blk_ne h.rowE h.box (by decide)) u, h.lm, by rw [hf]; exact h.lf, by rw [he]; exact h.le, fun j a b => ?_, h.nd, h.lo, h.gb, h.ext.setCell (p := ⟨gw, i, none⟩) h.gb u, h.keep.set h.box, by simpa using h.bl, h.b0⟩
  have := h.each j a (by rw [← hf]; exact b)
  simp only [hf]
  exact this.far (p := ⟨gw, i, none⟩) (this.ne_blk h.box) u
/-- One descriptors' map more. -/
theorem WAt.fork {w1 : World} (h : WAt w0 wb be gw K N E d ms Af cf Ae ce w) {b K' : Nat} {f : FdT} (hK : K ≤ K') (hx : Ext w w1) (hb : w.heap.size ≤ b) (hm : FdAt w1 b K' f) {A' : Option Addr} {c' : Nat}
    (ho : w'.ownsRow w0.heap.size mpT 1 (.slice A' (N + 1) c') (N + 1) (mapsV ms ++ [.map (some b)])) (hg : w1.grownBy w' (Value.ownBlock (.slice Af N cf))) :
    WAt w0 wb be gw K' (N + 1) E { d with fds := d.fds ++ [f] } (ms ++ [b]) A' c' Ae ce (w'.setCell ⟨gw, 0, none⟩ (.slice A' (N + 1) c')) := by
  have h1 := h.to hx
  have hbox : Blk w' gw wdT _ := h1.box.grown hg (own_blk_ne h1.rowF h1.box (by decide)).symm
  have hrF : w'.ownsRow w0.heap.size mpT 1 (.slice A' (N + 1) c') (N + 1) (mapsV (ms ++ [b])) := by simpa [mapsV] using ho
  have hrE := own_keptB h1.rowE hg (fun j hj e => own_own_ne h1.rowE h1.rowF (by decide) j hj e)
  have hk : ∀ {m Km : Nat} {fm : FdT}, FdAt w1 m Km fm → FdAt (w'.setCell ⟨gw, 0, none⟩ (.slice A' (N + 1) c')) m Km fm := fun {m Km fm} q => by
    have q1 := q.kept hg (fun e => q.ne_own h1.rowF e.symm)
    exact q1.far (p := ⟨gw, 0, none⟩) (q1.ne_blk hbox) _
  refine ⟨hbox.set_ 0 _, own_far hrF (p := ⟨gw, 0, none⟩) (own_blk_ne hrF hbox (by decide)) _, own_far hrE (p := ⟨gw, 0, none⟩) (own_blk_ne hrE hbox (by decide)) _, by simp [h.lm], by simp [h.lf], h.le, fun j a b' => ?_, ?_, ?_, h.gb, (h1.ext.grown hg (fun k hk => (h1.rowF.lt k hk).1)).setCell (p := ⟨gw, 0, none⟩) h.gb _, (h1.keep.rowF h1.bl h1.rowF hg).set hbox, by have := Nat.le_trans h1.bl hg.size; simpa using this, h.b0⟩
  · by_cases hj : j < ms.length
    · rw [List.getElem_append_left hj, List.getElem_append_left (by rw [h.lf, ← h.lm]; exact hj)]
      exact hk ((h1.each j hj (by rw [h.lf, ← h.lm]; exact hj)).mono hK)
    · have hjn : j = ms.length := by simp at a; omega
      subst hjn
      rw [List.getElem_append_right (Nat.le_refl _)]
      have : (d.fds ++ [f])[ms.length] = f := by
        rw [List.getElem_append_right (by rw [h.lf, h.lm]; exact Nat.le_refl _)]
        simp
      rw [this]
      simp only [Nat.sub_self, List.getElem_singleton]
      exact hk hm
  · refine List.nodup_append.2 ⟨h.nd, by simp, fun x hx' y hy => ?_⟩
    rw [List.mem_singleton] at hy
    subst hy
    obtain ⟨j, hj, rfl⟩ := List.mem_iff_getElem.1 hx'
    have := (h.each j hj (by rw [h.lf, ← h.lm]; exact hj)).lt
    omega
  · intro x hx'
    rcases List.mem_append.1 hx' with hx' | hx'
    · exact h.lo x hx'
    · rw [List.mem_singleton] at hx'
      have := h.ext.size
      omega
/-- One run more. -/
theorem WAt.exec {w1 : World} (h : WAt w0 wb be gw K N E d ms Af cf Ae ce w) (hx : Ext w w1) (z : Int) {A' : Option Addr} {c' : Nat}
    (ho : w'.ownsRow be 3 1 (.slice A' (E + 1) c') (E + 1) (intsV d.execs ++ [.int .i64 z])) (hg : w1.grownBy w' (Value.ownBlock (.slice Ae E ce))) :
    WAt w0 wb be gw K N (E + 1) { d with execs := d.execs ++ [z] } ms Af cf A' c' (w'.setCell ⟨gw, 2, none⟩ (.slice A' (E + 1) c')) := by
  have h1 := h.to hx
  have hbox : Blk w' gw wdT _ := h1.box.grown hg (own_blk_ne h1.rowE h1.box (by decide)).symm
  have hrE : w'.ownsRow be 3 1 (.slice A' (E + 1) c') (E + 1) (intsV (d.execs ++ [z])) := by simpa [intsV] using ho
  have hrF := own_keptB h1.rowF hg (fun j hj e => own_own_ne h1.rowF h1.rowE (by decide) j hj e)
  refine ⟨hbox.set_ 2 _, own_far hrF (p := ⟨gw, 2, none⟩) (own_blk_ne hrF hbox (by decide)) _, own_far hrE (p := ⟨gw, 2, none⟩) (own_blk_ne hrE hbox (by decide)) _, h.lm, h.lf, by simp [h.le], fun j a b' => ?_, h.nd, h.lo, h.gb, (h1.ext.grown hg (fun k hk => Nat.le_trans h.b0 (h1.rowE.lt k hk).1)).setCell (p := ⟨gw, 2, none⟩) h.gb _, (h1.keep.grown h1.bl hg (fun k cs t fr hk hc _ _ e => by have := (h1.rowE.lt k e.symm).1; omega)).set hbox, by have := Nat.le_trans h1.bl hg.size; simpa using this, h.b0⟩
  have q := h1.each j a b'
  have q1 := q.kept hg (fun e => q.ne_own h1.rowE e.symm)
  exact q1.far (p := ⟨gw, 2, none⟩) (q1.ne_blk hbox) _
end
end Go.Proofs.Ytikpdhkjkmbomaa
