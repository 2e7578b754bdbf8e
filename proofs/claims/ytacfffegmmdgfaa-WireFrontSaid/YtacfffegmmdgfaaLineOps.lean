/- What calls at a line's ends and rows make of it. Plain laws; the contract of seg.Encode at a segment. -/
import Derived.Test.YtacfffegmmdgfaaLineP
import Derived.Test.YtacfffegmmdgfaaPrefix
import Derived.Test.YtacfffegmmdgfaaCut
namespace Go.Proofs.Ytacfffegmmdgfaa
open Go.RowKit
set_option linter.unusedVariables false

theorem letter_info : (Try.prog.info? 64).map (fun i => (i.zero, i.size, i.bytes)) = some (some (.agg #[.int .i64 0, .slice none 0 0]), 2, 32) := by kernel_rfl
theorem lay_snoc (y : List (Nat × SegD)) (i : Nat) (l : List SegD) (s : SegD) : lay y i (l ++ [s]) = if (lay y i l).length < 64 then lay y i l ++ [(1 - i, s)] else lay y i l := by
  unfold lay
  rw [List.map_append, List.length_append, List.length_take, List.length_map]
  by_cases h : y.length + min (64 - y.length) l.length < 64
  · rw [if_pos h, List.append_assoc]
    congr 1
    rw [List.take_append, List.take_of_length_le (by rw [List.length_map]; omega)]
    congr 1
    rw [List.length_map]
    exact List.take_of_length_le (by simp; omega)
  · rw [if_neg h, List.take_append, List.length_map]
    rw [show 64 - y.length - l.length = 0 by omega, List.take_zero, List.append_nil]
theorem Blk.reads2 {w : World} {g : Nat} {t : TypeId} {a b : Value} (h : Blk w g t #[a, b]) : Reads w w.heap.size 2 (some ⟨g, 0, none⟩) 1 [a, b] := by
  refine ⟨by simp, fun _ => ⟨_, rfl, h.lt, fun j u hu => ?_⟩⟩
  rw [add_lit, Nat.zero_add, h.cell]
  simpa using hu
theorem lay_nil (y : List (Nat × SegD)) (i : Nat) : lay y i [] = y := by unfold lay; simp
theorem encode_seg (s : SegD) (ok : s.Ok) (A : Option Addr) (n c B : Nat) (w : World) (hr : Reads w B 1 A n (bytesV s.data)) (hB : B ≤ w.heap.size) (hn : s.data.length = n) :
    Calls Try.prog 24 #[.agg #[.int .u32 s.seq, .int .u32 s.ack, .int .i64 s.fl, .int .i64 s.wd, .slice A n c]] w fun e w' =>
      ∃ A' c', e = .returned (.tuple #[.slice A' (14 + n) c', .int .i64 0]) ∧ w'.ownsRow w.heap.size 5 1 (.slice A' (14 + n) c') (14 + n) (bytesV (Sg.enc (toSg s))) ∧ Ext w w' := by
  obtain ⟨h1, h2, h3, h4⟩ := toSg_is ok
  have := Sg.encode_any (toSg s) (toSg_ok ok) A n c B w hr hB hn
  rw [h1, h2, h3, h4] at this
  exact this
section
variable {w0 w w' W w7 : World} {gl : Nat} {L : LineL} {d : LineD}
/-- An end says something. -/
theorem LineM.outed (h : LineM w0 gl L d w) {i : Nat} (hi : i < 2) {A : Option Addr} {c : Nat} (hat : OutAt w (L.b i) (L.vo i) (L.vi i) (outE (d.e i)).1 A c (outE (d.e i)).2 w') :
    ∃ L', LineM w0 gl L' { d with e := upd d.e i (outE (d.e i)).1 } w' ∧ L'.b = L.b ∧ L'.vy = L.vy ∧ L'.ls = L.ls ∧ L'.T = newT w L.T i := by
  obtain ⟨L', h1, h2, -, -, h5, h6, h7⟩ := h.endOp hi (out_ok (h.ok i hi)).1 (out_live (h.live i hi)) (EndOp.of_grown (h.end_ i hi) hat.grown hat.box (out_same (d.e i)).1 (out_same (d.e i)).2)
  exact ⟨L', h1, h2, h5, h6, h7⟩
theorem lets_one {w : World} {lo : Nat} {ls : List ((Nat × SegD) × Value)} (h : ∀ x ∈ ls, LetAt w lo x) : ∀ u ∈ ls.flatMap letC, u.oneCell' = true := by
  intro u hu
  obtain ⟨x, hx, hux⟩ := List.mem_flatMap.1 hu
  obtain ⟨A, c, hv, -⟩ := own_form (h x hx)
  rcases List.mem_cons.1 hux with rfl | hux
  · rfl
  · obtain rfl := List.mem_singleton.1 hux
    rw [hv]
    rfl
/-- A letter is laid behind the way. -/
theorem LineM.pushed (h : LineM w0 gl L d w) (hx : Ext w W) {j : Nat} {s : SegD} (hj : j < 2) (hs : s.Ok) {vb : Value} (hb : LetAt W w0.heap.size ((j, s), vb)) (hbt : ∀ k, vb.ownBlock = some k → k < W.heap.size ∧ (k < w.heap.size → L.T k = 8))
    {Ay A7 : Option Addr} {ny cy c7 : Nat} (hvy : L.vy = .slice Ay ny cy) (hny : d.y.length = ny)
    (ho7 : w7.ownsRow w0.heap.size 64 2 (.slice A7 (ny + 1) c7) (ny + 1) (L.ls.flatMap letC ++ letC ((j, s), vb))) (hg7 : W.grownBy w7 (Value.ownBlock (.slice Ay ny cy)))
    (ha7 : Value.ownBlock (.slice A7 (ny + 1) c7) = Value.ownBlock (.slice Ay ny cy) ∨ Value.ownBlock (.slice A7 (ny + 1) c7) = some W.heap.size) :
    ∃ L', LineM w0 gl L' { d with y := d.y ++ [(j, s)] } (w7.setCell ⟨gl, 10, none⟩ (.slice A7 (ny + 1) c7)) ∧ L'.b = L.b ∧ KeepF (fun k => k = gl ∨ L.T k = 6) w (w7.setCell ⟨gl, 10, none⟩ (.slice A7 (ny + 1) c7)) ∧ ∀ k, k < w.heap.size → L'.T k = L.T k := by
  have hway := h.way
  rw [hvy] at hway
  have hwayW := hx.own hway
  have hglW : Blk W gl 46 (lineC L) := h.box.ext hx
  have hgl7 : Blk w7 gl 46 (lineC L) := hglW.grown hg7 (fun e => own_blk_ne hwayW hglW (by decide) e.symm)
  have hsz : w7.heap.size = (w7.setCell ⟨gl, 10, none⟩ (.slice A7 (ny + 1) c7)).heap.size := by simp
  have hset : ∀ k, k ≠ gl → (w7.setCell ⟨gl, 10, none⟩ (.slice A7 (ny + 1) c7)).heap[k]? = w7.heap[k]? := fun k hk => Below.heap_setCell w7 ⟨gl, 10, none⟩ _ k hk
  have hty : ∀ k, Value.ownBlock (.slice Ay ny cy) = some k → L.T k = 6 := fun k hk => h.ty k (by rw [hvy]; exact hk)
  have hK : KeepF (fun k => k = gl ∨ L.T k = 6) w (w7.setCell ⟨gl, 10, none⟩ (.slice A7 (ny + 1) c7)) :=
    ⟨hg7.os.trans hx.os, hg7.tape.trans hx.tape, hg7.output.trans hx.output, by rw [← hsz]; exact Nat.le_trans hx.size hg7.size, fun k hk hn =>
      ((hset k (fun e => hn (.inl e))).trans (hg7.block k (Nat.lt_of_lt_of_le hk hx.size) (fun e => hn (.inr (hty k e.symm))))).trans (hx.block k hk)⟩
  have hbox : Blk (w7.setCell ⟨gl, 10, none⟩ (.slice A7 (ny + 1) c7)) gl 46 (lineC { L with vy := .slice A7 (ny + 1) c7, ls := L.ls ++ [((j, s), vb)], T := fun k => if w.heap.size ≤ k then (if vb.ownBlock = some k then 8 else 6) else L.T k }) := hgl7.set_ 10 _
  have h7 : (w7.setCell ⟨gl, 10, none⟩ (.slice A7 (ny + 1) c7)).ownsRow w0.heap.size 64 2 (.slice A7 (ny + 1) c7) (ny + 1) (L.ls.flatMap letC ++ letC ((j, s), vb)) :=
    own_far (p := ⟨gl, 10, none⟩) ho7 (own_blk_ne ho7 hgl7 (by decide)) _
  have hTo : ∀ k, k < w.heap.size → (if w.heap.size ≤ k then (if vb.ownBlock = some k then 8 else 6) else L.T k) = L.T k := fun k hk => if_neg (by omega)
  have far8 : ∀ {v : Value} {n : Nat} {xs : List Value}, w.ownsRow w0.heap.size 5 1 v n xs → (∀ k, v.ownBlock = some k → L.T k = 8) → (w7.setCell ⟨gl, 10, none⟩ (.slice A7 (ny + 1) c7)).ownsRow w0.heap.size 5 1 v n xs := fun ho ht => hK.own ho (fun k hv hf => by
    have h1 := ht k hv
    rcases hf with rfl | h2
    · rw [h.tb] at h1; omega
    · omega)
  have hvb : LetAt (w7.setCell ⟨gl, 10, none⟩ (.slice A7 (ny + 1) c7)) w0.heap.size ((j, s), vb) :=
    own_far (p := ⟨gl, 10, none⟩) (own_of_keep hb (fun k hv => hg7.block k (hb.lt k hv).2 (fun e => own_ne_own hb hwayW (by decide) hv e.symm))) (fun e => by
      have h1 := own_blk_ne hb hglW (by decide)
      exact h1 e) _
  refine ⟨_, h.turn (c := 6) (by omega) hK (fun k hf => hf) hbox rfl rfl rfl rfl hTo (fun i hi => .inl ⟨rfl, rfl, by omega⟩) (fun i hi => .inl ⟨rfl, rfl, by omega⟩) (.inr ⟨?_, ?_, ?_, ?_, ?_, ?_, ?_⟩), rfl, hK, hTo⟩
  · dsimp only
    rw [List.length_append, hny, List.flatMap_append]
    simpa using h7
  · dsimp only
    rw [List.map_append, h.segs]
    rfl
  · intro x hx
    rcases List.mem_append.1 hx with h1 | h1
    · exact h.dst x h1
    · obtain rfl := List.mem_singleton.1 h1
      exact hj
  · intro x hx
    rcases List.mem_append.1 hx with h1 | h1
    · exact h.sok x h1
    · obtain rfl := List.mem_singleton.1 h1
      exact hs
  · intro x hx
    rcases List.mem_append.1 hx with h1 | h1
    · exact far8 (h.lets x h1) (h.tl x h1)
    · obtain rfl := List.mem_singleton.1 h1
      exact hvb
  · intro k hk
    dsimp only at hk ⊢
    rcases ha7 with ha | ha
    · rw [ha] at hk
      have hlt := (hway.lt k hk).2
      rw [if_neg (by omega)]
      exact hty k hk
    · rw [ha] at hk
      injection hk with hk
      subst hk
      have hle := hx.size
      rw [if_pos hle, if_neg (fun e => by have := (hbt _ e).1; omega)]
  · intro x hx k hk
    dsimp only
    rcases List.mem_append.1 hx with h1 | h1
    · have hlt := ((h.lets x h1).lt k hk).2
      rw [if_neg (by omega)]
      exact h.tl x h1 k hk
    · obtain rfl := List.mem_singleton.1 h1
      by_cases hle : w.heap.size ≤ k
      · rw [if_pos hle, if_pos hk]
      · rw [if_neg hle]
        exact (hbt k hk).2 (by omega)
/-- A row of what was written gets longer. -/
theorem LineM.wroteMore (h : LineM w0 gl L d w) (hx : Ext w W) {i : Nat} (hi : i < 2) {Ay A7 : Option Addr} {ny cy c7 m : Nat} {xs : List UInt8} (hv : L.vp i = .slice Ay ny cy) (hny : (d.p i).length = ny) (hxs : xs.length = m)
    (ho7 : w7.ownsRow w0.heap.size 5 1 (.slice A7 (ny + m) c7) (ny + m) (bytesV (d.p i) ++ bytesV xs)) (hg7 : W.grownBy w7 (Value.ownBlock (.slice Ay ny cy)))
    (ha7 : Value.ownBlock (.slice A7 (ny + m) c7) = Value.ownBlock (.slice Ay ny cy) ∨ Value.ownBlock (.slice A7 (ny + m) c7) = some W.heap.size) :
    ∃ L', LineM w0 gl L' { d with p := upd d.p i (d.p i ++ xs) } (w7.setCell ⟨gl, 2 + 4 * i, none⟩ (.slice A7 (ny + m) c7)) ∧ L'.b = L.b := by
  have hrow := h.wrote i hi
  rw [hv] at hrow
  have hrowW := hx.own hrow
  have hglW : Blk W gl 46 (lineC L) := h.box.ext hx
  have hgl7 : Blk w7 gl 46 (lineC L) := hglW.grown hg7 (fun e => own_blk_ne hrowW hglW (by decide) e.symm)
  have hsz : w7.heap.size = (w7.setCell ⟨gl, 2 + 4 * i, none⟩ (.slice A7 (ny + m) c7)).heap.size := by simp
  have hset : ∀ k, k ≠ gl → (w7.setCell ⟨gl, 2 + 4 * i, none⟩ (.slice A7 (ny + m) c7)).heap[k]? = w7.heap[k]? := fun k hk => Below.heap_setCell w7 ⟨gl, 2 + 4 * i, none⟩ _ k hk
  have hty : ∀ k, Value.ownBlock (.slice Ay ny cy) = some k → L.T k = 2 + i := fun k hk => h.tp i hi k (by rw [hv]; exact hk)
  have hK : KeepF (fun k => k = gl ∨ L.T k = 2 + i) w (w7.setCell ⟨gl, 2 + 4 * i, none⟩ (.slice A7 (ny + m) c7)) :=
    ⟨hg7.os.trans hx.os, hg7.tape.trans hx.tape, hg7.output.trans hx.output, by rw [← hsz]; exact Nat.le_trans hx.size hg7.size, fun k hk hn =>
      ((hset k (fun e => hn (.inl e))).trans (hg7.block k (Nat.lt_of_lt_of_le hk hx.size) (fun e => hn (.inr (hty k e.symm))))).trans (hx.block k hk)⟩
  have hbox : Blk (w7.setCell ⟨gl, 2 + 4 * i, none⟩ (.slice A7 (ny + m) c7)) gl 46 (lineC { L with vp := upd L.vp i (.slice A7 (ny + m) c7), T := newT w L.T (2 + i) }) := by
    have := hgl7.set_ (2 + 4 * i) (.slice A7 (ny + m) c7)
    rcases lt2 hi with rfl | rfl
    · exact this
    · exact this
  have h7 : (w7.setCell ⟨gl, 2 + 4 * i, none⟩ (.slice A7 (ny + m) c7)).ownsRow w0.heap.size 5 1 (.slice A7 (ny + m) c7) (ny + m) (bytesV (d.p i) ++ bytesV xs) :=
    own_far (p := ⟨gl, 2 + 4 * i, none⟩) ho7 (own_blk_ne ho7 hgl7 (by decide)) _
  refine ⟨_, h.turn (c := 2 + i) (by omega) hK (fun k hf => hf) hbox rfl rfl rfl rfl (fun k hk => newT_old hk) ?_ (fun j hj => .inl ⟨rfl, rfl, by omega⟩) (.inl ⟨rfl, rfl, rfl, by omega⟩), rfl⟩
  intro j hj
  by_cases e : j = i
  · subst e
    refine .inr ⟨?_, fun k hk => ?_⟩
    · dsimp only
      rw [upd_same, upd_same, List.length_append, hny, hxs]
      have : bytesV (d.p j ++ xs) = bytesV (d.p j) ++ bytesV xs := by unfold bytesV; rw [List.map_append]
      rw [this]
      exact h7
    · dsimp only at hk ⊢
      rw [upd_same] at hk
      rcases ha7 with ha | ha
      · rw [ha] at hk
        rw [newT_old (hrow.lt k hk).2]
        exact hty k hk
      · rw [ha] at hk
        injection hk with hk
        subst hk
        exact newT_new hx.size
  · refine .inl ⟨?_, ?_, by omega⟩
    · dsimp only
      rw [upd_other _ _ e]
    · dsimp only
      rw [upd_other _ _ e]
/-- A row of what was read gets longer. -/
theorem LineM.readMore (h : LineM w0 gl L d w) (hx : Ext w W) {i : Nat} (hi : i < 2) {Ay A7 : Option Addr} {ny cy c7 m : Nat} {xs : List UInt8} (hv : L.vg i = .slice Ay ny cy) (hny : (d.g i).length = ny) (hxs : xs.length = m)
    (ho7 : w7.ownsRow w0.heap.size 5 1 (.slice A7 (ny + m) c7) (ny + m) (bytesV (d.g i) ++ bytesV xs)) (hg7 : W.grownBy w7 (Value.ownBlock (.slice Ay ny cy)))
    (ha7 : Value.ownBlock (.slice A7 (ny + m) c7) = Value.ownBlock (.slice Ay ny cy) ∨ Value.ownBlock (.slice A7 (ny + m) c7) = some W.heap.size) :
    ∃ L', LineM w0 gl L' { d with g := upd d.g i (d.g i ++ xs) } (w7.setCell ⟨gl, 3 + 4 * i, none⟩ (.slice A7 (ny + m) c7)) ∧ L'.b = L.b := by
  have hrow := h.read i hi
  rw [hv] at hrow
  have hrowW := hx.own hrow
  have hglW : Blk W gl 46 (lineC L) := h.box.ext hx
  have hgl7 : Blk w7 gl 46 (lineC L) := hglW.grown hg7 (fun e => own_blk_ne hrowW hglW (by decide) e.symm)
  have hsz : w7.heap.size = (w7.setCell ⟨gl, 3 + 4 * i, none⟩ (.slice A7 (ny + m) c7)).heap.size := by simp
  have hset : ∀ k, k ≠ gl → (w7.setCell ⟨gl, 3 + 4 * i, none⟩ (.slice A7 (ny + m) c7)).heap[k]? = w7.heap[k]? := fun k hk => Below.heap_setCell w7 ⟨gl, 3 + 4 * i, none⟩ _ k hk
  have hty : ∀ k, Value.ownBlock (.slice Ay ny cy) = some k → L.T k = 4 + i := fun k hk => h.tg i hi k (by rw [hv]; exact hk)
  have hK : KeepF (fun k => k = gl ∨ L.T k = 4 + i) w (w7.setCell ⟨gl, 3 + 4 * i, none⟩ (.slice A7 (ny + m) c7)) :=
    ⟨hg7.os.trans hx.os, hg7.tape.trans hx.tape, hg7.output.trans hx.output, by rw [← hsz]; exact Nat.le_trans hx.size hg7.size, fun k hk hn =>
      ((hset k (fun e => hn (.inl e))).trans (hg7.block k (Nat.lt_of_lt_of_le hk hx.size) (fun e => hn (.inr (hty k e.symm))))).trans (hx.block k hk)⟩
  have hbox : Blk (w7.setCell ⟨gl, 3 + 4 * i, none⟩ (.slice A7 (ny + m) c7)) gl 46 (lineC { L with vg := upd L.vg i (.slice A7 (ny + m) c7), T := newT w L.T (4 + i) }) := by
    have := hgl7.set_ (3 + 4 * i) (.slice A7 (ny + m) c7)
    rcases lt2 hi with rfl | rfl
    · exact this
    · exact this
  have h7 : (w7.setCell ⟨gl, 3 + 4 * i, none⟩ (.slice A7 (ny + m) c7)).ownsRow w0.heap.size 5 1 (.slice A7 (ny + m) c7) (ny + m) (bytesV (d.g i) ++ bytesV xs) :=
    own_far (p := ⟨gl, 3 + 4 * i, none⟩) ho7 (own_blk_ne ho7 hgl7 (by decide)) _
  refine ⟨_, h.turn (c := 4 + i) (by omega) hK (fun k hf => hf) hbox rfl rfl rfl rfl (fun k hk => newT_old hk) (fun j hj => .inl ⟨rfl, rfl, by omega⟩) ?_ (.inl ⟨rfl, rfl, rfl, by omega⟩), rfl⟩
  intro j hj
  by_cases e : j = i
  · subst e
    refine .inr ⟨?_, fun k hk => ?_⟩
    · dsimp only
      rw [upd_same, upd_same, List.length_append, hny, hxs]
      have : bytesV (d.g j ++ xs) = bytesV (d.g j) ++ bytesV xs := by unfold bytesV; rw [List.map_append]
      rw [this]
      exact h7
    · dsimp only at hk ⊢
      rw [upd_same] at hk
      rcases ha7 with ha | ha
      · rw [ha] at hk
        rw [newT_old (hrow.lt k hk).2]
        exact hty k hk
      · rw [ha] at hk
        injection hk with hk
        subst hk
        exact newT_new hx.size
  · refine .inl ⟨?_, ?_, by omega⟩
    · dsimp only
      rw [upd_other _ _ e]
    · dsimp only
      rw [upd_other _ _ e]
end
end Go.Proofs.Ytacfffegmmdgfaa
