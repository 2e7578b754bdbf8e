/- The contracts of cutSegs and of (*pair).say. -/
import Derived.Test.YtkfpmljlgpobjaaPair
namespace Go.Proofs.Ytkfpmljlgpobjaa
open Go.RowKit
set_option linter.unusedVariables false

theorem cutSegs_any (A : Option Addr) (n c : Nat) (w : World) (hn : n ≤ c) (hc : c ≤ maxLen) :
    Calls Try.prog 34 #[.slice A n c] w fun e w' => e = .returned (.slice A (min n 70) c) ∧ w = w' := by
  unfold maxLen at hc
  have h1 : 70 < n → min n 70 = 70 := fun h => Nat.min_eq_right (by omega)
  have h2 : ¬ 70 < n → min n 70 = n := fun h => Nat.min_eq_left (by omega)
  have H1 := hide h1
  have H2 := hide h2
  clear h1 h2
  by_cases h : 70 < n
  · rw [H1.out h]
    go_enter Try.func34, Try.ntmps34
    go_wp2
    go_ret
    exact ⟨rfl, rfl⟩
  · rw [H2.out h]
    go_enter Try.func34, Try.ntmps34
    go_wp2
    go_ret
    exact ⟨rfl, rfl⟩
def sayI (d : PairD) (i : Nat) : PairD := { d with e := upd d.e i (outE (d.e i)).1, y := upd d.y (1 - i) (d.y (1 - i) ++ (outE (d.e i)).2.take 70) }
def sayP (d : PairD) : PairD := sayI (sayI d 0) 1
def opWay : Op := Op.load 27 (Operand.tmp 20)
theorem opWay_eq : opWay = Op.load 27 (Operand.tmp 20) := rfl
def SayRel (w0 : World) (gp : Nat) (b : Nat → Nat) (d : PairD) (i : Value) (wr : World) : Prop := ∃ k : Nat, k ≤ 2 ∧ i = .int .i64 k ∧ PairAt w0 gp b (if k = 0 then d else if k = 1 then sayI d 0 else sayP d) wr

theorem segs_ok_say {e : EndD} (ok : e.Ok) (f : Int) (ds : List UInt8) (hf : f = 0 ∨ f = 1 ∨ f = 4) (hd : ds.length ≤ 32) (h4 : f = 1 → (e.st = 2 ∨ e.st = 3)) (h5 : f ≠ 1 → e.st = 4) : (segOf e f ds).Ok := by
  have hi := ok.inn
  refine ⟨ok.nxt, ?_, ?_, ⟨?_, ?_⟩, hd⟩
  · show U32 (ackE e)
    unfold ackE
    split
    · exact ok.rcv
    · exact ⟨by omega, by omega⟩
  · show flE e f = 1 ∨ flE e f = 2 ∨ flE e f = 3 ∨ flE e f = 6
    unfold flE
    split
    · omega
    · rename_i h
      by_cases h1 : f = 1
      · exact .inl h1
      · have := h5 h1; omega
  · show 0 ≤ 64 - (e.inn.length : Int); omega
  · show 64 - (e.inn.length : Int) ≤ 64; omega
theorem outLoop_ok : ∀ (k : Nat) (e : EndD), e.Ok → e.st = 4 → (outLoop k e).1.Ok ∧ (outLoop k e).1.st = 4 ∧ ∀ s ∈ (outLoop k e).2, s.Ok
  | 0, e, ok, h4 => ⟨ok, h4, fun _ h => by cases h⟩
  | k + 1, e, ok, h4 => by
    unfold outLoop
    split
    · exact ⟨ok, h4, fun _ h => by cases h⟩
    · rename_i hn
      obtain ⟨h1, h2, h3⟩ := outLoop_ok k (sayE e 0 (outN e)) (say_ok ok _ _) h4
      refine ⟨h1, h2, fun s hs => ?_⟩
      rcases List.mem_cons.1 hs with rfl | hs
      · refine segs_ok_say ok 0 _ (.inl rfl) ?_ (fun h => absurd h (by decide)) (fun _ => h4)
        unfold outDs
        rw [List.length_take]
        have : outN e ≤ 32 := by unfold outN; omega
        omega
      · exact h3 s hs
theorem out_ok {e : EndD} (ok : e.Ok) : (outE e).1.Ok ∧ ∀ s ∈ (outE e).2, s.Ok := by
  unfold outE
  split
  · rename_i h
    refine ⟨say_ok ok _ _, fun s hs => ?_⟩
    obtain rfl := List.mem_singleton.1 hs
    exact segs_ok_say ok 1 [] (.inr (.inl rfl)) (by simp) (fun _ => h.1) (fun h => absurd rfl h)
  · split
    · rename_i _ h4
      obtain ⟨h1, h2, h3⟩ := outLoop_ok 64 e ok h4
      generalize outLoop 64 e = r at *
      have hf : (outFin r).1.Ok ∧ (outFin r).1.st = 4 ∧ ∀ s ∈ (outFin r).2, s.Ok := by
        unfold outFin
        split
        · refine ⟨say_ok h1 _ _, h2, fun s hs => ?_⟩
          rcases List.mem_append.1 hs with hs | hs
          · exact h3 s hs
          · obtain rfl := List.mem_singleton.1 hs
            exact segs_ok_say h1 4 [] (.inr (.inr rfl)) (by simp) (fun h => absurd h (by decide)) (fun _ => h2)
        · exact ⟨h1, h2, h3⟩
      obtain ⟨h1, h2, h3⟩ := hf
      generalize outFin r = r at *
      unfold outDue
      split
      · refine ⟨say_ok h1 _ _, fun s hs => ?_⟩
        rcases List.mem_append.1 hs with hs | hs
        · exact h3 s hs
        · obtain rfl := List.mem_singleton.1 hs
          exact segs_ok_say h1 0 [] (.inl rfl) (by simp) (fun h => absurd h (by decide)) (fun _ => h2)
      · exact ⟨h1, h3⟩
    · exact ⟨ok, fun _ h => by cases h⟩
theorem outLoop_same : ∀ (k : Nat) (e : EndD), (outLoop k e).1.out = e.out ∧ (outLoop k e).1.inn = e.inn
  | 0, e => ⟨rfl, rfl⟩
  | k + 1, e => by
    unfold outLoop
    split
    · exact ⟨rfl, rfl⟩
    · exact outLoop_same k (sayE e 0 (outN e))
theorem out_same (e : EndD) : (outE e).1.out = e.out ∧ (outE e).1.inn = e.inn := by
  unfold outE
  split
  · exact ⟨rfl, rfl⟩
  · split
    · have h := outLoop_same 64 e
      generalize outLoop 64 e = r at *
      have hf : (outFin r).1.out = e.out ∧ (outFin r).1.inn = e.inn := by unfold outFin; split <;> exact h
      generalize outFin r = r at *
      unfold outDue
      split <;> exact hf
    · exact ⟨rfl, rfl⟩
/-- The slices of what Out gave, cut, are new rows. -/
theorem segs_take {w : World} {lo n c k : Nat} {A : Option Addr} {l : List SegD} (h : SegsAt w lo (.slice A n c) l) (hn : n = l.length) :
    ∃ ls : List (SegD × Value), ls.map (·.1) = l.take k ∧ Reads w w.heap.size 5 A (min n k) (ls.flatMap segC) ∧ (∀ x ∈ ls, SegAt w lo x) := by
  obtain ⟨ls, h1, h2, h3⟩ := h
  subst hn
  refine ⟨ls.take k, by rw [List.map_take, h1], ?_, fun x hx => h3 x (List.mem_of_mem_take hx)⟩
  have hr := Reads.of_own h2
  have hl : ls.length = l.length := by rw [← h1, List.length_map]
  refine ⟨?_, fun hp => ?_⟩
  · rw [flat_length segC_len, List.length_take, hl]
    omega
  · obtain ⟨ad, e1, e2, e3⟩ := hr.2 (by omega)
    refine ⟨ad, e1, e2, fun j u hu => e3 j u ?_⟩
    have hpre : (ls.flatMap segC) = ((ls.take k).flatMap segC) ++ ((ls.drop k).flatMap segC) := by rw [← List.flatMap_append, List.take_append_drop]
    rw [hpre, List.getElem?_append_left (by exact (List.getElem?_eq_some_iff.1 hu).1)]
    exact hu
theorem own_shape {w : World} {base size n : Nat} {e : TypeId} {v : Value} {xs : List Value} (h : w.ownsRow base e size v n xs) : v.oneCell' = true := by
  obtain ⟨A, c, rfl, _⟩ := own_form h
  rfl
theorem segs_one {w : World} {lo : Nat} {ls : List (SegD × Value)} (h : ∀ x ∈ ls, SegAt w lo x) : ∀ u ∈ ls.flatMap segC, u.oneCell' = true := by
  intro u hu
  obtain ⟨x, hx, hu⟩ := List.mem_flatMap.1 hu
  have h1 := own_shape (h x hx)
  simp only [segC, List.mem_cons, List.not_mem_nil, or_false] at hu
  rcases hu with rfl | rfl | rfl | rfl | rfl
  · rfl
  · rfl
  · rfl
  · rfl
  · exact h1
theorem PairM.outed {w0 w W w1 : World} {gp : Nat} {L : PairL} {d : PairD} (h : PairM w0 gp L d w) {i : Nat} (hi : i < 2) (hx : Ext w W) {A : Option Addr} {c : Nat} (hat : OutAt W (L.b i) (L.vo i) (L.vi i) (outE (d.e i)).1 A c (outE (d.e i)).2 w1) :
    PairM w0 gp L { d with e := upd d.e i (outE (d.e i)).1 } w1 := by
  have h1 := h.extend hx
  have hk : KeepF (fun k => k = L.b i) W w1 := KeepF.of_grown hat.grown rfl
  have hs := h1.ext.size
  have hf : ∀ j, j < 2 → ∀ k, k = L.b i → j ≠ i → ¬ foot (L.b j) (L.vo j) (L.vi j) k := fun j hj k e hne hk' => h1.apart2 hj hi hne k hk' (.inl e)
  refine ⟨hk.blk h1.box (fun e => h1.gp_not_foot hi (.inl e)), ?_, ?_, fun j hj => hk.own (h1.way j hj) (fun k hv e => own_not_foot h1 (h1.way j hj) (by decide) (by decide) hi hv (.inl e)), h1.segs, fun j hj x hm => hk.own (h1.data j hj x hm) (fun k hv e => h1.free j hj x hm k hv i hi (.inl e)), h1.sok, h1.apart, h1.ways, h1.free, h1.lo, ?_⟩
  · intro j hj
    dsimp only
    by_cases e : j = i
    · subst e
      rw [upd_same]
      exact (h1.end_ j hj).grown hat.grown hat.box (out_same _).1 (out_same _).2
    · rw [upd_other _ _ e]
      exact (h1.end_ j hj).keep hk (fun k hk' e' => hf j hj k e' e hk')
  · intro j hj
    dsimp only
    by_cases e : j = i
    · subst e; rw [upd_same]; exact (out_ok (h.ok j hj)).1
    · rw [upd_other _ _ e]; exact h.ok j hj
  · exact Ext.of ⟨hk.os.trans h1.ext.os, hk.tape.trans h1.ext.tape, hk.output.trans h1.ext.output, Nat.le_trans hs hk.size, fun k hk1 => (hk.block k (Nat.lt_of_lt_of_le hk1 hs) (fun e => by have := h1.lo.2 i hi k (.inl e); omega)).trans (h1.ext.block k hk1)⟩
def OutR (wr W' : World) (g : Nat) (e : EndD) (vo vi : Value) (n1 : Nat) (r : Ending) (w1 : World) : Prop := Ext wr W' ∧ ∃ A c, r = .returned (.slice A n1 c) ∧ OutAt W' g vo vi (outE e).1 A c (outE e).2 w1
/-- One end's say, joined: Out, cut, append, store. -/
theorem PairM.said {w0 w W w1 W2 w7 : World} {gp : Nat} {L : PairL} {d : PairD} (h : PairM w0 gp L d w) {i : Nat} (hi : i < 2) (hx : Ext w W) {A : Option Addr} {c n1 k1 ny : Nat} (hat : OutAt W (L.b i) (L.vo i) (L.vi i) (outE (d.e i)).1 A c (outE (d.e i)).2 w1)
    (hn1 : (outE (d.e i)).2.length = n1) (hk1 : min n1 70 = k1) {ls1 : List (SegD × Value)} (hm1 : ls1.map (·.1) = (outE (d.e i)).2.take 70) (hsd : ∀ x ∈ ls1, SegAt w1 W.heap.size x)
    {Ay A7 : Option Addr} {cy c7 : Nat} (hny : (d.y (1 - i)).length = ny) (hvy : L.vy (1 - i) = .slice Ay ny cy) (hx2 : Ext w1 W2) (hs2 : W2.heap.size = w1.heap.size)
    (ho7 : w7.ownsRow w0.heap.size 49 5 (.slice A7 (ny + k1) c7) (ny + k1) ((L.ls (1 - i)).flatMap segC ++ ls1.flatMap segC)) (hg7 : W2.grownBy w7 (Value.ownBlock (.slice Ay ny cy)))
    (ha7 : Value.ownBlock (.slice A7 (ny + k1) c7) = Value.ownBlock (.slice Ay ny cy) ∨ Value.ownBlock (.slice A7 (ny + k1) c7) = some W2.heap.size) :
    PairAt w0 gp L.b (sayI d i) (w7.setCell ⟨gp, 2 + (1 - i), none⟩ (.slice A7 (ny + k1) c7)) := by
  have h1 := h.outed hi hx hat
  subst hny
  have hWs : w0.heap.size ≤ W.heap.size := (h.extend hx).ext.size
  obtain ⟨L', hL, hb⟩ := h1.pushed (j := 1 - i) (by omega) (more := (outE (d.e i)).2.take 70) hvy hm1 (by rw [List.length_take, hn1]; omega) (fun x hm => own_mono (hsd x hm) hWs) (fun s hs => (out_ok (h.ok i hi)).2 s (List.mem_of_mem_take hs))
    (fun x hm k hk m hm2 hf => by
      have a1 := ((hsd x hm).lt k hk).1
      have a2 := ((h.extend hx).end_ m hm2).lt hf
      omega) ho7 (grown_trans' (grown_of_ext hx2 _) hg7) (by rw [← hs2]; exact ha7)
  exact ⟨L', hL, hb⟩
end Go.Proofs.Ytkfpmljlgpobjaa
