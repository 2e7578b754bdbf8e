/- What turns do to a pair of ends, as plain data; a way that gets less. -/
import Derived.Test.YtkfpmljlgpobjaaSegDel
namespace Go.Proofs.Ytkfpmljlgpobjaa
open Go.RowKit
set_option linter.unusedVariables false

theorem PairAt.later {w0 w w' : World} {gp : Nat} {b : Nat → Nat} {d : PairD} (h : PairAt w0 gp b d w) (hx : Ext w w') : PairAt w0 gp b d w' := by
  obtain ⟨L, h, hb⟩ := h
  exact ⟨L, h.extend hx, hb⟩
structure TurnD where
  kind : Int
  n : Int
  data : List UInt8
def pickN (n : Int) (l : Nat) : Nat := (restZ (n.tdiv 2) l).toNat
def dropI (d : PairD) (i k : Nat) : PairD := { d with y := upd d.y i ((d.y i).eraseIdx k) }
def dupI (d : PairD) (i k : Nat) : PairD := { d with y := upd d.y i (d.y i ++ ((d.y i)[k]?).toList) }
def getI (d : PairD) (i k : Nat) : PairD :=
  match (d.y i)[k]? with
  | some s => { d with e := upd d.e i (comeS (d.e i) s), y := upd d.y i ((d.y i).eraseIdx k) }
  | none => d
def endOf (t : TurnD) : Nat := (restZ t.n 2).toNat
/-- One turn, ahead of what is said: the pair, and the ticks. -/
def turnI (d : PairD) (ticks : Nat) (t : TurnD) : PairD × Nat :=
  let i := endOf t
  let k := restZ t.kind 8
  if k = 0 ∨ k = 1 then (writeI d i (t.data.take 40), ticks)
  else if k = 2 then (readI d i, ticks)
  else if k = 3 then (if 0 < (d.y i).length then dropI d i (pickN t.n (d.y i).length) else d, ticks)
  else if k = 4 then (if 0 < (d.y i).length ∧ (d.y i).length < 60 then dupI d i (pickN t.n (d.y i).length) else d, ticks)
  else if k = 5 ∨ k = 6 then (if 0 < (d.y i).length then getI d i (pickN t.n (d.y i).length) else d, ticks)
  else (if ticks + 1 < 10 then tickI (tickI d 0) 1 else d, ticks + 1)
def turnP (s : PairD × Nat) (t : TurnD) : PairD × Nat := (sayP (turnI s.1 s.2 t).1, (turnI s.1 s.2 t).2)
def turnsP (d : PairD) (ts : List TurnD) : PairD × Nat := (ts.take 40).foldl turnP (d, 0)
/-- A way gets less, in place. -/
theorem PairM.lessened {w0 w w7 : World} {gp : Nat} {L : PairL} {d : PairD} (h : PairM w0 gp L d w) {j : Nat} (hj : j < 2) {ys : List SegD} {ls1 : List (SegD × Value)} {Ay : Option Addr} {cy m : Nat}
    (hvy : L.vy j = .slice Ay (d.y j).length cy) (hm1 : ls1.map (·.1) = ys) (hk1 : ys.length = m) (hsub : ∀ x ∈ ls1, x ∈ L.ls j)
    (ho7 : w7.ownsRow w0.heap.size 49 5 (.slice Ay m cy) m (ls1.flatMap segC)) (hg7 : w.grownBy w7 (Value.ownBlock (.slice Ay (d.y j).length cy))) :
    ∃ L', PairM w0 gp L' { d with y := upd d.y j ys } (w7.setCell ⟨gp, 2 + j, none⟩ (.slice Ay m cy)) ∧ L'.b = L.b ∧ L'.vo = L.vo ∧ L'.vi = L.vi := by
  have hwj := h.way j hj
  rw [hvy] at hwj
  have hgp7 : Blk w7 gp 43 (pairC L d) := h.box.grown hg7 (fun e => own_blk_ne hwj h.box (by decide) e.symm)
  have hsz : w7.heap.size = (w7.setCell ⟨gp, 2 + j, none⟩ (.slice Ay m cy)).heap.size := by simp
  have hset : ∀ k, k ≠ gp → (w7.setCell ⟨gp, 2 + j, none⟩ (.slice Ay m cy)).heap[k]? = w7.heap[k]? := fun k hk => Below.heap_setCell w7 ⟨gp, 2 + j, none⟩ _ k hk
  have hK : KeepF (fun k => k = gp ∨ Value.ownBlock (.slice Ay (d.y j).length cy) = some k) w (w7.setCell ⟨gp, 2 + j, none⟩ (.slice Ay m cy)) :=
    ⟨hg7.os, hg7.tape, hg7.output, by rw [← hsz]; exact hg7.size, fun k hk hn => (hset k (fun e => hn (.inl e))).trans (hg7.block k hk (fun e => hn (.inr e.symm)))⟩
  have keep8 : ∀ {base size n : Nat} {e : TypeId} {v : Value} {xs : List Value}, w.ownsRow base e size v n xs → e ≠ 43 → e ≠ 49 → (w7.setCell ⟨gp, 2 + j, none⟩ (.slice Ay m cy)).ownsRow base e size v n xs := fun ho n1 n2 =>
    hK.own ho (fun k hv hf => by
      rcases hf with rfl | hf
      · exact own_blk_ne ho h.box n1 hv
      · exact own_ne_own ho hwj n2 hv hf)
  have hblk : Blk (w7.setCell ⟨gp, 2 + j, none⟩ (.slice Ay m cy)) gp 43 (pairC { L with vy := upd L.vy j (.slice Ay m cy), ls := upd L.ls j (ls1) } { d with y := upd d.y j (ys) }) := by
    have := hgp7.set_ (2 + j) (.slice Ay m cy)
    rcases lt2 hj with rfl | rfl
    · exact this
    · exact this
  refine ⟨{ L with vy := upd L.vy j (.slice Ay m cy), ls := upd L.ls j (ls1) }, h.boxed hK ?_ ?_ hblk rfl rfl rfl rfl ?_ ?_ ?_ ?_ ?_ ?_, rfl, rfl, rfl⟩
  · intro i hi k hf hor
    rcases hor with rfl | hor
    · exact h.gp_not_foot hi hf
    · exact own_not_foot h hwj (by decide) (by decide) hi hor hf
  · rintro k (rfl | hor)
    · exact h.lo.1
    · exact (hwj.lt k hor).1
  · intro i hi
    dsimp only
    by_cases e : i = j
    · subst e
      rw [upd_same, upd_same, upd_same, hk1]
      exact own_far (p := ⟨gp, 2 + i, none⟩) ho7 (own_blk_ne ho7 hgp7 (by decide)) _
    · rw [upd_other _ _ e, upd_other _ _ e, upd_other _ _ e]
      refine hK.own (h.way i hi) (fun k hv hf => ?_)
      rcases hf with rfl | hf
      · exact own_blk_ne (h.way i hi) h.box (by decide) hv
      · rw [← hvy] at hf
        rcases lt2 hi with rfl | rfl <;> rcases lt2 hj with rfl | rfl
        · exact e rfl
        · exact h.ways k hv hf
        · exact h.ways k hf hv
        · exact e rfl
  · intro i hi
    dsimp only
    by_cases e : i = j
    · subst e; rw [upd_same, upd_same, hm1]
    · rw [upd_other _ _ e, upd_other _ _ e]; exact h.segs i hi
  · intro i hi x hx
    dsimp only at hx
    by_cases e : i = j
    · subst e
      rw [upd_same] at hx
      exact keep8 (h.data i hi x (hsub x hx)) (by decide) (by decide)
    · rw [upd_other _ _ e] at hx
      exact keep8 (h.data i hi x hx) (by decide) (by decide)
  · intro i hi s hs
    dsimp only at hs
    by_cases e : i = j
    · subst e
      rw [upd_same] at hs
      rw [← hm1] at hs
      obtain ⟨x, hx, rfl⟩ := List.mem_map.1 hs
      exact h.sok i hi _ (by rw [← h.segs i hi]; exact List.mem_map.2 ⟨x, hsub x hx, rfl⟩)
    · rw [upd_other _ _ e] at hs
      exact h.sok i hi s hs
  · intro k h0 h1
    dsimp only at h0 h1
    have fresh : ∀ i, i < 2 → i ≠ j → ∀ k, (L.vy i).ownBlock = some k → Value.ownBlock (.slice Ay m cy) ≠ some k := fun i hi hne k hk hk' => by
      have ha : Value.ownBlock (.slice Ay m cy) = Value.ownBlock (.slice Ay (d.y j).length cy) := by cases Ay <;> rfl
      rw [ha, ← hvy] at hk'
      rcases lt2 hi with rfl | rfl <;> rcases lt2 hj with rfl | rfl
      · exact hne rfl
      · exact h.ways k hk hk'
      · exact h.ways k hk' hk
      · exact hne rfl
    rcases lt2 hj with rfl | rfl
    · rw [upd_same] at h0
      rw [upd_other _ _ (by decide)] at h1
      exact fresh 1 (by omega) (by decide) k h1 h0
    · rw [upd_other _ _ (by decide)] at h0
      rw [upd_same] at h1
      exact fresh 0 (by omega) (by decide) k h0 h1
  · intro i hi x hx k hk m' hm
    dsimp only at hx
    by_cases e : i = j
    · subst e
      rw [upd_same] at hx
      exact h.free i hi x (hsub x hx) k hk m' hm
    · rw [upd_other _ _ e] at hx
      exact h.free i hi x hx k hk m' hm
structure Kept (d : PairD) (Y G P : Nat) : Prop where
  s : Sound d Y G
  put : ∀ i, i < 2 → (d.p i).length ≤ P
theorem Sound.mono {d : PairD} {Y G Y' G' : Nat} (h : Sound d Y G) (hy : Y ≤ Y') (hg : G ≤ G') : Sound d Y' G' :=
  ⟨h.live, fun i hi => Nat.le_trans (h.way i hi) hy, fun i hi => Nat.le_trans (h.got i hi) hg⟩
theorem write_live {e : EndD} (h : Live e) (ds : List UInt8) : Live (writeE e ds).1 := by
  unfold writeE
  split
  · exact h
  split
  · exact h
  split
  · exact h
  · exact h
theorem endOf_lt (t : TurnD) : endOf t < 2 := by
  have h1 := restZ_lo t.n 2 (by omega)
  have h2 := restZ_hi t.n 2 (by omega)
  unfold endOf
  omega
theorem kept_turn {d : PairD} {Y G P : Nat} (hok : ∀ i, i < 2 → (d.e i).Ok) (h : Kept d Y G P) (tk : Nat) (t : TurnD) : Kept (turnI d tk t).1 (Y + 60) (G + 64) (P + 40) := by
  have hi := endOf_lt t
  have base : Kept d (Y + 60) (G + 64) (P + 40) := ⟨h.s.mono (by omega) (by omega), fun i hi => by have := h.put i hi; omega⟩
  unfold turnI
  dsimp only
  split
  · refine ⟨⟨upd_all base.s.live (write_live (h.s.live _ hi) _), base.s.way, base.s.got⟩, fun j hj => ?_⟩
    have h1 := h.put j hj
    have h2 := h.put _ hi
    simp only [writeI, upd]
    split
    · rw [List.length_append, List.length_take, List.length_take]; omega
    · omega
  split
  · refine ⟨(sound_readI h.s _ hi).mono (by omega) (by omega), fun j hj => ?_⟩
    have : (readI d (endOf t)).p = d.p := by unfold readI; split <;> rfl
    dsimp only
    rw [this]
    exact base.put j hj
  split
  · dsimp only
    split
    · refine ⟨⟨base.s.live, fun j hj => ?_, base.s.got⟩, base.put⟩
      have h1 := h.s.way j hj
      have h2 := h.s.way _ hi
      simp only [dropI, upd]
      split
      · have := List.length_eraseIdx_le (d.y (endOf t)) (pickN t.n (d.y (endOf t)).length); omega
      · omega
    · exact base
  split
  · dsimp only
    split
    · refine ⟨⟨base.s.live, fun j hj => ?_, base.s.got⟩, base.put⟩
      have h1 := h.s.way j hj
      have h2 := h.s.way _ hi
      simp only [dupI, upd]
      split
      · rw [List.length_append]
        have : ((d.y (endOf t))[pickN t.n (d.y (endOf t)).length]?).toList.length ≤ 1 := by cases (d.y (endOf t))[pickN t.n (d.y (endOf t)).length]? <;> simp
        omega
      · omega
    · exact base
  split
  · dsimp only
    split
    · unfold getI
      split
      · refine ⟨⟨upd_all base.s.live (come_live (h.s.live _ hi) _), fun j hj => ?_, base.s.got⟩, base.put⟩
        have h1 := h.s.way j hj
        have h2 := h.s.way _ hi
        simp only [upd]
        split
        · have := List.length_eraseIdx_le (d.y (endOf t)) (pickN t.n (d.y (endOf t)).length); omega
        · omega
      · exact base
    · exact base
  · dsimp only
    split
    · have s1 := sound_tickI (hok 0 (by omega)) base.s (by omega)
      have hok1 : ((tickI d 0).e 1).Ok := by
        show (upd d.e 0 (tickE (d.e 0)) 1).Ok
        rw [upd_other _ _ (by decide)]
        exact hok 1 (by omega)
      exact ⟨sound_tickI hok1 s1 (by omega), base.put⟩
    · exact base
theorem kept_say {d : PairD} {Y G P : Nat} (h : Kept d Y G P) : Kept (sayP d) (Y + 140) G P := ⟨sound_sayP h.s, h.put⟩
theorem turn_ticks (d : PairD) (tk : Nat) (t : TurnD) : (turnI d tk t).2 ≤ tk + 1 := by
  unfold turnI
  dsimp only
  split
  · dsimp only; omega
  split
  · dsimp only; omega
  split
  · dsimp only; omega
  split
  · dsimp only; omega
  split
  · dsimp only; omega
  · exact Nat.le_refl _
def opDel3 : Op := Op.load 27 (Operand.tmp 85)
theorem opDel3_eq : opDel3 = Op.load 27 (Operand.tmp 85) := rfl
def opDel5 : Op := Op.load 27 (Operand.tmp 183)
theorem opDel5_eq : opDel5 = Op.load 27 (Operand.tmp 183) := rfl
def opDup1 : Op := Op.load 27 (Operand.tmp 120)
theorem opDup1_eq : opDup1 = Op.load 27 (Operand.tmp 120) := rfl
def opDup2 : Op := Op.load 27 (Operand.tmp 126)
theorem opDup2_eq : opDup2 = Op.load 27 (Operand.tmp 126) := rfl
def opDup3 : Op := Op.load 27 (Operand.tmp 135)
theorem opDup3_eq : opDup3 = Op.load 27 (Operand.tmp 135) := rfl
def opDup4 : Op := Op.load 49 (Operand.tmp 139)
theorem opDup4_eq : opDup4 = Op.load 49 (Operand.tmp 139) := rfl
theorem map_erase {α β : Type} (f : α → β) : ∀ (l : List α) (k : Nat), (l.eraseIdx k).map f = (l.map f).eraseIdx k
  | [], k => by simp
  | x :: l, 0 => by simp
  | x :: l, k + 1 => by simp [map_erase f l k]
/-- slices.Delete at a way, and its store. -/
theorem PairM.deleted {w0 w W w7 : World} {gp : Nat} {L : PairL} {d : PairD} (h : PairM w0 gp L d w) {j : Nat} (hj : j < 2) {gy ny cy kk : Nat} (hvy : L.vy j = .slice (some ⟨gy, 0, none⟩) ny cy) (hyn : (d.y j).length = ny) (hk : kk < ny) (hx : Ext w W)
    (ho7 : w7.ownsRow w0.heap.size 49 5 (.slice (some ⟨gy, 0, none⟩) (ny - 1) cy) (ny - 1) (((L.ls j).eraseIdx kk).flatMap segC)) (hg7 : W.grownBy w7 (some gy)) :
    ∃ L', PairM w0 gp L' (dropI d j kk) (w7.setCell ⟨gp, 2 + j, none⟩ (.slice (some ⟨gy, 0, none⟩) (ny - 1) cy)) ∧ L'.b = L.b ∧ L'.vo = L.vo ∧ L'.vi = L.vi := by
  subst hyn
  exact h.lessened hj (ys := (d.y j).eraseIdx kk) (ls1 := (L.ls j).eraseIdx kk) hvy (by rw [map_erase, h.segs j hj]) (by rw [List.length_eraseIdx_of_lt hk]) (fun x hx => List.mem_of_mem_eraseIdx hx) ho7 (grown_trans' (grown_of_ext hx _) hg7)
end Go.Proofs.Ytkfpmljlgpobjaa
