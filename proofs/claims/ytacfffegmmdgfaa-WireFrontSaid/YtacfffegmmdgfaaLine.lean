/- A line between two ends, as plain data and in memory. -/
import Derived.Test.YtacfffegmmdgfaaFlowBase
import Derived.Test.YtacfffegmmdgfaaEndRW
import Derived.Test.YtacfffegmmdgfaaEndWr
import Derived.Test.YtacfffegmmdgfaaSgLaws
namespace Go.Proofs.Ytacfffegmmdgfaa
open Go.RowKit
set_option linter.unusedVariables false

structure LineD where
  e : Nat → EndD
  p : Nat → List UInt8
  g : Nat → List UInt8
  y : List (Nat × SegD)
def toSg (s : SegD) : Sg.SegD := ⟨s.seq.toNat, s.ack.toNat, s.fl.toNat, s.wd.toNat, s.data⟩
theorem toSg_ok {s : SegD} (h : s.Ok) : (toSg s).Ok := by
  obtain ⟨⟨a1, a2⟩, ⟨b1, b2⟩, c, ⟨d1, d2⟩, e⟩ := h
  refine ⟨?_, ?_, ?_, ?_, e⟩
  · show s.seq.toNat ≤ _; omega
  · show s.ack.toNat ≤ _; omega
  · show s.fl.toNat ≤ _; omega
  · show s.wd.toNat ≤ _; omega
theorem toSg_is {s : SegD} (h : s.Ok) : ((toSg s).seq : Int) = s.seq ∧ ((toSg s).ack : Int) = s.ack ∧ ((toSg s).fl : Int) = s.fl ∧ ((toSg s).wn : Int) = s.wd := by
  obtain ⟨⟨a1, a2⟩, ⟨b1, b2⟩, c, ⟨d1, d2⟩, e⟩ := h
  refine ⟨?_, ?_, ?_, ?_⟩
  · show ((s.seq.toNat : Nat) : Int) = _; omega
  · show ((s.ack.toNat : Nat) : Int) = _; omega
  · show ((s.fl.toNat : Nat) : Int) = _; omega
  · show ((s.wd.toNat : Nat) : Int) = _; omega
/-- Where a line lies; T: whose a block is: 0 and 1 an end's, 2 and 3 what was written there, 4 and 5 what was read, 6 the way's, 7 the line's, 8 a letter's, 9 nobody's. -/
structure LineL where
  b : Nat → Nat
  vo : Nat → Value
  vi : Nat → Value
  vp : Nat → Value
  vg : Nat → Value
  vy : Value
  ls : List ((Nat × SegD) × Value)
  T : Nat → Nat
def letC (x : (Nat × SegD) × Value) : List Value := [.int .i64 ((x.1.1 : Nat) : Int), x.2]
theorem letC_len (x : (Nat × SegD) × Value) : (letC x).length = 2 := rfl
def lineC (L : LineL) : Array Value := #[.pointer (some ⟨L.b 0, 0, none⟩), .pointer (some ⟨L.b 1, 0, none⟩), L.vp 0, L.vg 0, .bool false, .int .i64 0, L.vp 1, L.vg 1, .bool false, .int .i64 0, L.vy]
def LetAt (w : World) (lo : Nat) (x : (Nat × SegD) × Value) : Prop := w.ownsRow lo 5 1 x.2 (14 + x.1.2.data.length) (bytesV (Sg.enc (toSg x.1.2)))
structure LineM (w0 : World) (gl : Nat) (L : LineL) (d : LineD) (w : World) : Prop where
  box : Blk w gl 46 (lineC L)
  end_ : ∀ i, i < 2 → EndM w (L.b i) (d.e i) (L.vo i) (L.vi i)
  ok : ∀ i, i < 2 → (d.e i).Ok
  live : ∀ i, i < 2 → Live (d.e i)
  wrote : ∀ i, i < 2 → w.ownsRow w0.heap.size 5 1 (L.vp i) (d.p i).length (bytesV (d.p i))
  read : ∀ i, i < 2 → w.ownsRow w0.heap.size 5 1 (L.vg i) (d.g i).length (bytesV (d.g i))
  way : w.ownsRow w0.heap.size 64 2 L.vy d.y.length (L.ls.flatMap letC)
  segs : L.ls.map (·.1) = d.y
  dst : ∀ x ∈ d.y, x.1 < 2
  sok : ∀ x ∈ d.y, x.2.Ok
  lets : ∀ x ∈ L.ls, LetAt w w0.heap.size x
  tb : L.T gl = 7
  te : ∀ i, i < 2 → ∀ k, foot (L.b i) (L.vo i) (L.vi i) k → L.T k = i
  tp : ∀ i, i < 2 → ∀ k, (L.vp i).ownBlock = some k → L.T k = 2 + i
  tg : ∀ i, i < 2 → ∀ k, (L.vg i).ownBlock = some k → L.T k = 4 + i
  ty : ∀ k, L.vy.ownBlock = some k → L.T k = 6
  tl : ∀ x ∈ L.ls, ∀ k, x.2.ownBlock = some k → L.T k = 8
  tlo : ∀ k, k < w0.heap.size → L.T k = 9
  lo : w0.heap.size ≤ gl
  ext : Ext w0 w
def LineAt (w0 : World) (gl : Nat) (b : Nat → Nat) (d : LineD) (w : World) : Prop := ∃ L, LineM w0 gl L d w ∧ L.b = b
section
variable {w0 w w' : World} {gl : Nat} {L : LineL} {d : LineD} {F : Nat → Prop}
theorem ext_keepF {w0 w w' : World} (hx : Ext w0 w) (hk : KeepF F w w') (hF : ∀ k, F k → w0.heap.size ≤ k) : Ext w0 w' :=
  Ext.of ⟨hk.os.trans hx.os, hk.tape.trans hx.tape, hk.output.trans hx.output, Nat.le_trans hx.size hk.size, fun k hk1 => (hk.block k (Nat.lt_of_lt_of_le hk1 hx.size) (fun hf => by have := hF k hf; omega)).trans (hx.block k hk1)⟩
theorem LineM.extend (h : LineM w0 gl L d w) (hx : Ext w w') : LineM w0 gl L d w' :=
  ⟨h.box.ext hx, fun i hi => (h.end_ i hi).ext hx, h.ok, h.live, fun i hi => hx.own (h.wrote i hi), fun i hi => hx.own (h.read i hi), hx.own h.way, h.segs, h.dst, h.sok, fun x hm => hx.own (h.lets x hm), h.tb, h.te, h.tp, h.tg, h.ty, h.tl, h.tlo, h.lo, h.ext.trans hx⟩
theorem LineAt.extend {b : Nat → Nat} (h : LineAt w0 gl b d w) (hx : Ext w w') : LineAt w0 gl b d w' := by
  obtain ⟨L, h, hb⟩ := h
  exact ⟨L, h.extend hx, hb⟩
/-- New blocks are whose, from here on. -/
def newT (w : World) (T : Nat → Nat) (c : Nat) : Nat → Nat := fun k => if w.heap.size ≤ k then c else T k
theorem newT_old {T : Nat → Nat} {c k : Nat} (h : k < w.heap.size) : newT w T c k = T k := if_neg (by omega)
theorem newT_new {T : Nat → Nat} {c k : Nat} (h : w.heap.size ≤ k) : newT w T c k = c := if_pos h
/-- A call at end i. -/
theorem LineM.endOp (h : LineM w0 gl L d w) {i : Nat} (hi : i < 2) {e' : EndD} (ok' : e'.Ok) (hv' : Live e') (hop : EndOp w (L.b i) (L.vo i) (L.vi i) e' w') :
    ∃ L', LineM w0 gl L' { d with e := upd d.e i e' } w' ∧ L'.b = L.b ∧ L'.vp = L.vp ∧ L'.vg = L.vg ∧ L'.vy = L.vy ∧ L'.ls = L.ls ∧ L'.T = newT w L.T i := by
  obtain ⟨vo', vi', hm, hk, hf⟩ := hop
  have hti := h.te i hi
  have old : ∀ {base size n : Nat} {t : TypeId} {v : Value} {xs : List Value}, w.ownsRow base t size v n xs → ∀ k, v.ownBlock = some k → k < w.heap.size := fun ho k hv => (ho.lt k hv).2
  have far : ∀ {base size n c : Nat} {t : TypeId} {v : Value} {xs : List Value}, w.ownsRow base t size v n xs → (∀ k, v.ownBlock = some k → L.T k = c) → c ≠ i → w'.ownsRow base t size v n xs := fun ho ht hc => hk.own ho (fun k hv hfk => hc ((ht k hv).symm.trans (hti k hfk)))
  have hgl : ¬ foot (L.b i) (L.vo i) (L.vi i) gl := fun hf => by have := hti gl hf; rw [h.tb] at this; omega
  refine ⟨{ L with vo := upd L.vo i vo', vi := upd L.vi i vi', T := newT w L.T i }, ⟨hk.blk h.box hgl, ?_, ?_, ?_, fun j hj => far (h.wrote j hj) (h.tp j hj) (by omega), fun j hj => far (h.read j hj) (h.tg j hj) (by omega), far h.way h.ty (by omega), h.segs, h.dst, h.sok, fun x hx => far (h.lets x hx) (h.tl x hx) (by omega), ?_, ?_, ?_, ?_, ?_, ?_, ?_, h.lo, ?_⟩, rfl, rfl, rfl, rfl, rfl, rfl⟩
  · intro j hj
    dsimp only
    by_cases e : j = i
    · subst e; rw [upd_same, upd_same, upd_same]; exact hm
    · rw [upd_other _ _ e, upd_other _ _ e, upd_other _ _ e]
      exact (h.end_ j hj).keep hk (fun k hfk hfk' => e ((h.te j hj k hfk).symm.trans (hti k hfk')))
  · intro j hj
    dsimp only
    by_cases e : j = i
    · subst e; rw [upd_same]; exact ok'
    · rw [upd_other _ _ e]; exact h.ok j hj
  · intro j hj
    dsimp only
    by_cases e : j = i
    · subst e; rw [upd_same]; exact hv'
    · rw [upd_other _ _ e]; exact h.live j hj
  · dsimp only
    rw [newT_old h.box.lt]
    exact h.tb
  · intro j hj k hfk
    dsimp only at hfk ⊢
    by_cases e : j = i
    · subst e
      rw [upd_same, upd_same] at hfk
      by_cases hlt : k < w.heap.size
      · rw [newT_old hlt]
        rcases hf k hfk with h2 | h2
        · exact hti k h2
        · omega
      · exact newT_new (by omega)
    · rw [upd_other _ _ e, upd_other _ _ e] at hfk
      rw [newT_old ((h.end_ j hj).lt hfk)]
      exact h.te j hj k hfk
  · intro j hj k hv
    dsimp only
    rw [newT_old (old (h.wrote j hj) k hv)]
    exact h.tp j hj k hv
  · intro j hj k hv
    dsimp only
    rw [newT_old (old (h.read j hj) k hv)]
    exact h.tg j hj k hv
  · intro k hv
    dsimp only
    rw [newT_old (old h.way k hv)]
    exact h.ty k hv
  · intro x hx k hv
    dsimp only
    rw [newT_old (old (h.lets x hx) k hv)]
    exact h.tl x hx k hv
  · intro k hk1
    dsimp only
    have := h.ext.size
    rw [newT_old (by omega)]
    exact h.tlo k hk1
  · exact ext_keepF h.ext hk (fun k hf => by
      by_cases hlt : k < w0.heap.size
      · have h1 := h.tlo k hlt
        rw [hti k hf] at h1
        omega
      · omega)
/-- The line's own block is written, and a row of the line's. -/
theorem LineM.turn (h : LineM w0 gl L d w) {L' : LineL} {d' : LineD} {c : Nat} (hc : 2 ≤ c ∧ c ≤ 6) (hk : KeepF F w w') (hF : ∀ k, F k → k = gl ∨ L.T k = c) (hbox : Blk w' gl 46 (lineC L'))
    (eb : L'.b = L.b) (eo : L'.vo = L.vo) (ei : L'.vi = L.vi) (ee : d'.e = d.e) (hT : ∀ k, k < w.heap.size → L'.T k = L.T k)
    (hp : ∀ i, i < 2 → (L'.vp i = L.vp i ∧ d'.p i = d.p i ∧ c ≠ 2 + i) ∨ (w'.ownsRow w0.heap.size 5 1 (L'.vp i) (d'.p i).length (bytesV (d'.p i)) ∧ ∀ k, (L'.vp i).ownBlock = some k → L'.T k = 2 + i))
    (hg : ∀ i, i < 2 → (L'.vg i = L.vg i ∧ d'.g i = d.g i ∧ c ≠ 4 + i) ∨ (w'.ownsRow w0.heap.size 5 1 (L'.vg i) (d'.g i).length (bytesV (d'.g i)) ∧ ∀ k, (L'.vg i).ownBlock = some k → L'.T k = 4 + i))
    (hy : (L'.vy = L.vy ∧ L'.ls = L.ls ∧ d'.y = d.y ∧ c ≠ 6) ∨ (w'.ownsRow w0.heap.size 64 2 L'.vy d'.y.length (L'.ls.flatMap letC) ∧ L'.ls.map (·.1) = d'.y ∧ (∀ x ∈ d'.y, x.1 < 2) ∧ (∀ x ∈ d'.y, x.2.Ok) ∧ (∀ x ∈ L'.ls, LetAt w' w0.heap.size x) ∧ (∀ k, L'.vy.ownBlock = some k → L'.T k = 6) ∧ ∀ x ∈ L'.ls, ∀ k, x.2.ownBlock = some k → L'.T k = 8)) :
    LineM w0 gl L' d' w' := by
  have old : ∀ {base size n : Nat} {t : TypeId} {v : Value} {xs : List Value}, w.ownsRow base t size v n xs → ∀ k, v.ownBlock = some k → k < w.heap.size := fun ho k hv => (ho.lt k hv).2
  have far : ∀ {base size n c' : Nat} {t : TypeId} {v : Value} {xs : List Value}, w.ownsRow base t size v n xs → (∀ k, v.ownBlock = some k → L.T k = c') → c' ≠ c → c' ≠ 7 → w'.ownsRow base t size v n xs := fun ho ht hc1 hc7 => hk.own ho (fun k hv hfk => by
    have h1 := ht k hv
    rcases hF k hfk with rfl | h2
    · rw [h.tb] at h1; omega
    · omega)
  have hs := h.ext.size
  refine ⟨hbox, ?_, by rw [ee]; exact h.ok, by rw [ee]; exact h.live, ?_, ?_, ?_, ?_, ?_, ?_, ?_, ?_, ?_, ?_, ?_, ?_, ?_, ?_, h.lo, ?_⟩
  · intro i hi
    rw [eb, eo, ei, ee]
    exact (h.end_ i hi).keep hk (fun k hfk hf => by
      have h1 := h.te i hi k hfk
      rcases hF k hf with rfl | h2
      · rw [h.tb] at h1; omega
      · omega)
  · intro i hi
    rcases hp i hi with ⟨h1, h2, h3⟩ | ⟨h1, -⟩
    · rw [h1, h2]
      exact far (h.wrote i hi) (h.tp i hi) (fun e => h3 e.symm) (by omega)
    · exact h1
  · intro i hi
    rcases hg i hi with ⟨h1, h2, h3⟩ | ⟨h1, -⟩
    · rw [h1, h2]
      exact far (h.read i hi) (h.tg i hi) (fun e => h3 e.symm) (by omega)
    · exact h1
  · rcases hy with ⟨h1, h2, h3, h4⟩ | ⟨h1, -⟩
    · rw [h1, h2, h3]
      exact far h.way h.ty (fun e => h4 e.symm) (by omega)
    · exact h1
  · rcases hy with ⟨h1, h2, h3, h4⟩ | ⟨-, h1, -⟩
    · rw [h2, h3]; exact h.segs
    · exact h1
  · rcases hy with ⟨h1, h2, h3, h4⟩ | ⟨-, -, h1, -⟩
    · rw [h3]; exact h.dst
    · exact h1
  · rcases hy with ⟨h1, h2, h3, h4⟩ | ⟨-, -, -, h1, -⟩
    · rw [h3]; exact h.sok
    · exact h1
  · rcases hy with ⟨h1, h2, h3, h4⟩ | ⟨-, -, -, -, h1, -⟩
    · rw [h2]
      exact fun x hx => far (h.lets x hx) (h.tl x hx) (by omega) (by omega)
    · exact h1
  · rw [hT gl h.box.lt]; exact h.tb
  · intro i hi k hfk
    rw [eb, eo, ei] at hfk
    rw [hT k ((h.end_ i hi).lt hfk)]
    exact h.te i hi k hfk
  · intro i hi k hv
    rcases hp i hi with ⟨h1, h2, h3⟩ | ⟨-, h1⟩
    · rw [h1] at hv
      rw [hT k (old (h.wrote i hi) k hv)]
      exact h.tp i hi k hv
    · exact h1 k hv
  · intro i hi k hv
    rcases hg i hi with ⟨h1, h2, h3⟩ | ⟨-, h1⟩
    · rw [h1] at hv
      rw [hT k (old (h.read i hi) k hv)]
      exact h.tg i hi k hv
    · exact h1 k hv
  · intro k hv
    rcases hy with ⟨h1, h2, h3, h4⟩ | ⟨-, -, -, -, -, h1, -⟩
    · rw [h1] at hv
      rw [hT k (old h.way k hv)]
      exact h.ty k hv
    · exact h1 k hv
  · intro x hx k hv
    rcases hy with ⟨h1, h2, h3, h4⟩ | ⟨-, -, -, -, -, -, h1⟩
    · rw [h2] at hx
      rw [hT k (old (h.lets x hx) k hv)]
      exact h.tl x hx k hv
    · exact h1 x hx k hv
  · intro k hk1
    rw [hT k (by omega)]
    exact h.tlo k hk1
  · exact ext_keepF h.ext hk (fun k hf => by
      rcases hF k hf with rfl | h2
      · exact h.lo
      · by_cases hlt : k < w0.heap.size
        · have h1 := h.tlo k hlt
          omega
        · omega)
end
end Go.Proofs.Ytacfffegmmdgfaa
