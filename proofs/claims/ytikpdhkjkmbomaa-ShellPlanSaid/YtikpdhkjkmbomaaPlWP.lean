/- What the walk of ShellPlan leans on: the commands, the shell's own descriptors. Plain theorems. -/
import Derived.Test.YtikpdhkjkmbomaaPlStep
import Derived.Test.YtikpdhkjkmbomaaPlLaw
import Derived.Test.YtikpdhkjkmbomaaPlanW
import Derived.Test.YtikpdhkjkmbomaaItoa
import Derived.Great.BuildSlice
namespace Go.Proofs.Ytikpdhkjkmbomaa
open Go.RowKit Go.Maps
set_option linter.unusedVariables false

abbrev RawS := Bool × Bool × Bool
def rawC (r : RawS) : List Value := [.bool r.1, .bool r.2.1, .bool r.2.2]
theorem rawC_len (r : RawS) : (rawC r).length = 3 := rfl
def SimsOk (ls : List (SimD × Value)) : Prop := ∀ i x, ls[i]? = some x → IsSim i x.1
theorem SimsOk.more {ls : List (SimD × Value)} {k : Nat} (h : SimsOk ls) (hl : ls.length = k) {x : SimD × Value} (hx : IsSim k x.1) : SimsOk (ls ++ [x]) := fun i y hy => by
  by_cases hi : i < k
  · rw [List.getElem?_append_left (by rw [hl]; exact hi)] at hy
    exact h i y hy
  · rw [List.getElem?_append_right (by omega), hl] at hy
    have h0 : i - k = 0 := by
      have := (List.getElem?_eq_some_iff.1 hy).1
      simpa using this
    rw [h0] at hy
    injection hy with hy
    have : i = k := by omega
    subst this
    rw [← hy]
    exact hx
theorem SimsOk.arg {ls : List (SimD × Value)} (h : SimsOk ls) : ∀ x ∈ ls, x.1.arg ≠ [] := fun x hx => by
  obtain ⟨i, hi, rfl⟩ := List.mem_iff_getElem.1 hx
  obtain ⟨a, b, c, e⟩ := h i _ (List.getElem?_eq_getElem hi)
  rw [e]
  simp [simK, nameP]
/-- Commands in memory. -/
def ArgAt (w : World) (x : SimD × Value) : Prop := ∃ g, x.2 = .slice (some ⟨g, 0, none⟩) 1 1 ∧ Blk w g 9 #[.string (str x.1.arg)]
abbrev smT : TypeId := 28
structure CmSt (w : World) (ls : List (SimD × Value)) (N : Nat) (A : Option Addr) (c : Nat) (wr : World) : Prop where
  ln : ls.length = N
  row : wr.ownsRow w.heap.size smT 4 (.slice A N c) N (ls.flatMap simC)
  each : ∀ x ∈ ls, ArgAt wr x
  ext : Ext w wr
section
variable {w wr w' : World} {ls : List (SimD × Value)} {N : Nat} {A A' : Option Addr} {c c' : Nat}
theorem ArgAt.ext {x : SimD × Value} (h : ArgAt wr x) (hx : Ext wr w') : ArgAt w' x := by
  obtain ⟨g, e, hb⟩ := h
  exact ⟨g, e, hb.ext hx⟩
theorem CmSt.to (h : CmSt w ls N A c wr) (hx : Ext wr w') : CmSt w ls N A c w' := ⟨h.ln, hx.own h.row, fun x hm => (h.each x hm).ext hx, h.ext.trans hx⟩
theorem CmSt.more (h : CmSt w ls N A c wr) {x : SimD × Value} (hx : ArgAt wr x) (ho : w'.ownsRow w.heap.size smT 4 (.slice A' (N + 1) c') (N + 1) (ls.flatMap simC ++ simC x)) (hg : wr.grownBy w' (Value.ownBlock (.slice A N c))) : CmSt w (ls ++ [x]) (N + 1) A' c' w' := by
  refine ⟨by simp [h.ln], by rw [List.flatMap_append, List.flatMap_cons, List.flatMap_nil, List.append_nil]; exact ho, fun y hy => ?_, h.ext.grown hg (fun k hk => (h.row.lt k hk).1)⟩
  have h0 : ArgAt wr y := by
    rcases List.mem_append.1 hy with hy | hy
    · exact h.each y hy
    · rw [List.mem_singleton] at hy; rw [hy]; exact hx
  obtain ⟨g, e, hb⟩ := h0
  exact ⟨g, e, hb.grown hg (own_blk_ne h.row hb (by decide)).symm⟩
theorem CmSt.sims (h : CmSt w ls N A c wr) (ha : ∀ x ∈ ls, x.1.arg ≠ []) : SimsIn wr A N ls :=
  ⟨Reads.of_own h.row, fun x hm => by
    obtain ⟨g, e, hb⟩ := h.each x hm
    exact ⟨⟨some ⟨g, 0, none⟩, 0, 1, [], e, by simp [maxLen], hb.reads⟩, ha x hm⟩⟩
end
/-- The shell's own descriptors, behind so many of the bools. -/
def haveQ (l : List Bool) : FdT := [tokB (l.getD 0 false) 0, tokB (l.getD 1 false) 1, tokB (l.getD 2 false) 2, tokB (l.getD 3 false) 3, .no, .no, .no, .no]
theorem getD_take (l : List Bool) (k j : Nat) : (l.take k).getD j false = if j < k then l.getD j false else false := by
  rw [List.getD_eq_getElem?_getD, List.getElem?_take]
  split
  · rw [← List.getD_eq_getElem?_getD]
  · rfl
theorem haveQ_put (l : List Bool) (q : Nat) (hq : q < 4) (hb : l.getD q false = true) : (haveQ (l.take q)).set q (.old q) = haveQ (l.take (q + 1)) := by
  simp only [haveQ, getD_take]
  rcases (show q = 0 ∨ q = 1 ∨ q = 2 ∨ q = 3 by omega) with rfl | rfl | rfl | rfl <;> rw [hb] <;> simp [tokB]
theorem haveQ_same (l : List Bool) (q : Nat) (hb : ¬ (q < 4 ∧ l.getD q false = true)) : haveQ (l.take (q + 1)) = haveQ (l.take q) := by
  simp only [haveQ, getD_take]
  by_cases hq : q < 4
  · have hb' : l.getD q false = false := by
      cases h : l.getD q false with
      | false => rfl
      | true => exact absurd ⟨hq, h⟩ hb
    rcases (show q = 0 ∨ q = 1 ∨ q = 2 ∨ q = 3 by omega) with rfl | rfl | rfl | rfl <;> rw [hb'] <;> simp [tokB]
  · have h1 : ∀ j, j < 4 → (j < q + 1) = True := fun j hj => by simp; omega
    have h2 : ∀ j, j < 4 → (j < q) = True := fun j hj => by simp; omega
    simp [h1, h2]
theorem haveQ_all (l : List Bool) : haveQ l = haveT (l.getD 0 false) (l.getD 1 false) (l.getD 2 false) (l.getD 3 false) := rfl
theorem opFrom_getD (l : List Bool) : opFrom 0 l = opB (l.getD 0 false) (l.getD 1 false) (l.getD 2 false) (l.getD 3 false) := by
  unfold opB
  match l with
  | [] => rfl
  | [b0] => cases b0 <;> rfl
  | [b0, b1] => cases b0 <;> cases b1 <;> rfl
  | [b0, b1, b2] => cases b0 <;> cases b1 <;> cases b2 <;> rfl
  | b0 :: b1 :: b2 :: b3 :: l =>
    have h : opFrom 4 l = opFrom 4 [] := (opFrom_end l 4 (by omega)).trans rfl
    simp only [opFrom, List.getD_cons_zero, List.getD_cons_succ] at h ⊢
    rw [h]
theorem noF_fd : fdF [.no, .no, .no, .no, .no, .no, .no, .no] = fun _ => none := by
  funext x
  unfold fdF
  rw [if_pos]
  unfold atT
  split
  · generalize x.toNat = n
    rcases n with _ | _ | _ | _ | _ | _ | _ | _ | n <;> rfl
  · rfl
theorem haveQ_nil : haveQ [] = [.no, .no, .no, .no, .no, .no, .no, .no] := rfl
theorem cnt_have (l : List Bool) : cntT (haveQ l) = (opFrom 0 l).length := by
  rw [opFrom_getD]
  unfold haveQ opB
  cases l.getD 0 false <;> cases l.getD 1 false <;> cases l.getD 2 false <;> cases l.getD 3 false <;> rfl
theorem simsOk_one {x : SimD × Value} (h : IsSim 0 x.1) : SimsOk [x] := fun i y hy => by
  cases i with
  | zero => injection hy with hy; subst hy; exact h
  | succ i => cases hy
def CmOne (w : World) (v5 : Value) (wr : World) : Prop := ∃ (N : Nat) (ls : List (SimD × Value)) (A : Option Addr) (c : Nat), 1 ≤ N ∧ N ≤ 6 ∧ v5 = .slice A N c ∧ SimsOk ls ∧ CmSt w ls N A c wr
theorem own_of_blk {w : World} {g base : Nat} {a b c d : Value} {t : TypeId} (h : Blk w g t #[a, b, c, d]) (hb : base ≤ g) : w.ownsRow base t 4 (.slice (some ⟨g, 0, none⟩) 1 1) 1 [a, b, c, d] :=
  ⟨rfl, .inr ⟨g, 1, _, rfl, hb, h, Nat.le_refl _, by simp [maxLen], rfl, rfl⟩⟩
def d0T : WT := ⟨[[.no, .no, .no, .no, .no, .no, .no, .no]], 0, [], 0⟩
theorem wat0 (wc : World) : WAt wc wc wc.heap.size (wc.heap.size + 1 + 1) 0 1 0 d0T [wc.heap.size] (some ⟨wc.heap.size + 1, 0, none⟩) 1 none 0 (((wc.alloc (.map #[] 0)).alloc (.cells #[.map (some wc.heap.size)] mpT)).alloc (.cells #[.slice (some ⟨wc.heap.size + 1, 0, none⟩) 1 1, .int .i64 0, .slice none 0 0, .int .i64 0] wdT)) := by
  have hm := ((MapIS.made wc).alloc (.cells #[.map (some wc.heap.size)] mpT)).alloc (.cells #[.slice (some ⟨wc.heap.size + 1, 0, none⟩) 1 1, .int .i64 0, .slice none 0 0, .int .i64 0] wdT)
  have hf := (Blk.new' (wc.alloc (.map #[] 0)) mpT #[.map (some wc.heap.size)] (g := wc.heap.size + 1) (by simp)).alloc (.cells #[.slice (some ⟨wc.heap.size + 1, 0, none⟩) 1 1, .int .i64 0, .slice none 0 0, .int .i64 0] wdT)
  have hx := ((Ext.refl wc).alloc (.map #[] 0)).alloc (.cells #[.map (some wc.heap.size)] mpT) |>.alloc (.cells #[.slice (some ⟨wc.heap.size + 1, 0, none⟩) 1 1, .int .i64 0, .slice none 0 0, .int .i64 0] wdT)
  refine ⟨Blk.new' _ _ _ (by simp), ⟨rfl, .inr ⟨wc.heap.size + 1, 1, _, rfl, by omega, hf, Nat.le_refl _, by simp [maxLen], rfl, rfl⟩⟩, World.ownsRow_nil _ _ _ _, rfl, rfl, rfl, fun i a b => ?_, by simp, fun b hb => ?_, by omega, hx, (KeepB.refl _ _).ext (Nat.le_refl _) hx, hx.size, Nat.le_refl _⟩
  · have hi : i = 0 := by simp at a; omega
    subst hi
    exact ⟨by show MapIS _ wc.heap.size 0 (fdF [.no, .no, .no, .no, .no, .no, .no, .no]) 0; rw [noF_fd]; exact hm, rfl⟩
  · rw [List.mem_singleton] at hb; omega
section
variable {w0 wb w w' : World} {be gw K N E : Nat} {d : WT} {ms : List Nat} {Af : Option Addr} {cf : Nat}
theorem WAt.rebase (h : WAt w0 wb be gw K N 0 d ms Af cf none 0 w) : WAt w0 w w.heap.size gw K N 0 d ms Af cf none 0 w :=
  ⟨h.box, h.rowF, ⟨h.rowE.1, .inl ⟨rfl, rfl⟩⟩, h.lm, h.lf, h.le, h.each, h.nd, h.lo, h.gb, h.ext, KeepB.refl _ _, Nat.le_refl _, h.ext.size⟩
theorem WAt.grownI {base k : Nat} {v : Value} {xs : List Value} (h : WAt w0 wb be gw K N 0 d ms Af cf none 0 w) (ho : w.ownsRow base 3 1 v k xs) (h1 : w0.heap.size ≤ base) (h2 : be ≤ base) (hg : w.grownBy w' v.ownBlock) : WAt w0 wb be gw K N 0 d ms Af cf none 0 w' :=
  ⟨h.box.grown hg (own_blk_ne ho h.box (by decide)).symm, own_keptB h.rowF hg (fun j hj e => own_own_ne h.rowF ho (by decide) j hj e), ⟨h.rowE.1, .inl ⟨rfl, rfl⟩⟩, h.lm, h.lf, h.le, fun i a b => (h.each i a b).kept hg (fun e => (h.each i a b).ne_own ho e.symm), h.nd, h.lo, h.gb,
    h.ext.grown hg (fun j hj => Nat.le_trans h1 (ho.lt j hj).1), h.keep.grown h.bl hg (fun j cs t fr hj _ _ _ e => by have := (ho.lt j e.symm).1; omega), Nat.le_trans h.bl hg.size, h.b0⟩
end
def HvRel (wc : World) (gw gF : Nat) (bs : List Bool) (m : Nat) (v10 v67 : Value) (wr : World) : Prop :=
  ∃ (q : Nat) (A : Option Addr) (k c : Nat), q ≤ m ∧ v67 = .int .i64 q ∧ v10 = .slice A k c ∧ k ≤ 4 ∧ wr.ownsRow wc.heap.size 3 1 (.slice A k c) k (intsV (opFrom 0 (bs.take q))) ∧ WAt wc wc wc.heap.size gw k 1 0 { d0T with fds := [haveQ (bs.take q)] } [wc.heap.size] (some ⟨gF, 0, none⟩) 1 none 0 wr
theorem opFrom_take (bs : List Bool) (k : Nat) (hk : k < bs.length) : opFrom 0 (bs.take (k + 1)) = opFrom 0 (bs.take k) ++ (if k < 4 ∧ bs.getD k false = true then [(k : Int)] else []) := by
  have happ : ∀ (l : List Bool) (b : Bool) (k : Nat), opFrom k (l ++ [b]) = opFrom k l ++ (if k + l.length < 4 ∧ b = true then [((k + l.length : Nat) : Int)] else []) := by
    intro l
    induction l with
    | nil => intro b k; simp only [List.nil_append, opFrom, List.length_nil, Nat.add_zero]
    | cons a l ih =>
      intro b k
      have e : k + 1 + l.length = k + (a :: l).length := by simp; omega
      show (if k < 4 ∧ a = true then (k : Int) :: opFrom (k + 1) (l ++ [b]) else opFrom (k + 1) (l ++ [b])) = _
      rw [ih b (k + 1), e]
      show _ = (if k < 4 ∧ a = true then (k : Int) :: opFrom (k + 1) l else opFrom (k + 1) l) ++ _
      by_cases h : k < 4 ∧ a = true
      · rw [if_pos h, if_pos h]; rfl
      · rw [if_neg h, if_neg h]
  rw [List.take_succ_eq_append_getElem hk, happ]
  simp [List.length_take, Nat.min_eq_left (Nat.le_of_lt hk), List.getD_eq_getElem?_getD, hk]
theorem opFrom_len (l : List Bool) : (opFrom 0 l).length ≤ 4 := by
  have h : ∀ (l : List Bool) (k : Nat), (opFrom k l).length ≤ 4 - k := by
    intro l
    induction l with
    | nil => intro k; simp [opFrom]
    | cons b l ih =>
      intro k
      have := ih (k + 1)
      simp only [opFrom]
      split
      · simp; omega
      · omega
  exact h l 0
theorem opFrom_mem (l : List Bool) : ∀ k, ∀ z ∈ opFrom k l, 0 ≤ z ∧ z < 4 := by
  induction l with
  | nil => intro k z hz; simp [opFrom] at hz
  | cons b l ih =>
    intro k z hz
    simp only [opFrom] at hz
    split at hz
    · rcases List.mem_cons.1 hz with rfl | h
      · omega
      · exact ih _ z h
    · exact ih _ z hz
theorem KeepB.own {B base size n : Nat} {e : TypeId} {v : Value} {xs : List Value} {wb w : World} (h : KeepB B wb w) (hB : wb.heap.size ≤ B) (ho : wb.ownsRow base e size v n xs) (h1 : e ≠ wdT) (h2 : e ≠ mpT) : w.ownsRow base e size v n xs := by
  refine ⟨ho.1, ?_⟩
  rcases ho.2 with h0 | ⟨g, cap, cur, rfl, hb, hh, hr⟩
  · exact .inl h0
  · have hg : g < wb.heap.size := (Array.getElem?_eq_some_iff.1 hh).1
    exact .inr ⟨g, cap, cur, rfl, hb, (h g (by omega) cur e _ hh h1 h2).trans hh, hr⟩
theorem runT_at {L : List StepD} {i : Nat} {s : StepD} (hs : L[i]? = some s) {d dE : WT} (hr : runT (L.drop i) d = some dE) : ∃ d', stpT s d = some d' ∧ runT (L.drop (i + 1)) d' = some dE := by
  obtain ⟨hlt, rfl⟩ := List.getElem?_eq_some_iff.1 hs
  rw [List.drop_eq_getElem_cons hlt] at hr
  have hr' : (stpT L[i] d).bind (runT (L.drop (i + 1))) = some dE := hr
  cases h : stpT L[i] d with
  | none => rw [h] at hr'; cases hr'
  | some d' => rw [h] at hr'; exact ⟨d', rfl, hr'⟩
/-- A plan makes the world grow. -/
structure Leq (d e : WT) : Prop where
  f : d.fds.length ≤ e.fds.length
  p : d.pipes ≤ e.pipes
  x : d.execs.length ≤ e.execs.length
  w : d.waits ≤ e.waits
theorem Leq.refl (d : WT) : Leq d d := ⟨Nat.le_refl _, Nat.le_refl _, Nat.le_refl _, Nat.le_refl _⟩
theorem Leq.trans {a b c : WT} (h : Leq a b) (k : Leq b c) : Leq a c := ⟨Nat.le_trans h.f k.f, Nat.le_trans h.p k.p, Nat.le_trans h.x k.x, Nat.le_trans h.w k.w⟩
theorem ownT_pipes {c : CallD} {f : FdT} {p : Nat} {r : FdT × Nat} (h : ownT c f p = some r) : p ≤ r.2 := by
  unfold ownT at h
  repeat' split at h
  all_goals first
    | (injection h with h; subst h; simp)
    | cases h
theorem stpT_leq {s : StepD} {d d' : WT} (h : stpT s d = some d') : Leq d d' := by
  unfold stpT at h
  split at h
  · split at h
    · split at h
      · injection h with h; subst h; exact ⟨by simp, Nat.le_refl _, Nat.le_refl _, Nat.le_refl _⟩
      · cases h
    · split at h
      · injection h with h; subst h; exact ⟨Nat.le_refl _, Nat.le_refl _, by simp, Nat.le_refl _⟩
      · split at h
        · split at h
          · injection h with h; subst h; exact ⟨Nat.le_refl _, Nat.le_refl _, Nat.le_refl _, Nat.le_succ _⟩
          · cases h
        · rw [Option.map_eq_some_iff] at h
          obtain ⟨r, hr, rfl⟩ := h
          exact ⟨by simp, ownT_pipes hr, Nat.le_refl _, Nat.le_refl _⟩
  · cases h
theorem runT_leq : ∀ (l : List StepD) {d d' : WT}, runT l d = some d' → Leq d d' := by
  intro l
  induction l with
  | nil => intro d d' h; injection h with h; subst h; exact Leq.refl _
  | cons s l ih =>
    intro d d' h
    have h' : (stpT s d).bind (runT l) = some d' := h
    cases hs : stpT s d with
    | none => rw [hs] at h'; cases h'
    | some e => rw [hs] at h'; exact (stpT_leq hs).trans (ih h')
theorem free_have (bs : List Bool) : 4 ≤ freeN (haveH (opFrom 0 bs)) := by
  have h := runs_law 1 (by omega) (by omega) bs
  unfold runsOk at h
  simp only [Bool.and_eq_true, decide_eq_true_eq] at h
  exact h.2.2.2.2
theorem wants_len (b0 b1 b2 b3 : Bool) : ∀ (l : List SimD) (k : Nat), (wants b0 b1 b2 b3 k l).length = l.length := by
  intro l
  induction l with
  | nil => intro k; rfl
  | cons s l ih => intro k; show (wants b0 b1 b2 b3 (k + 1) l).length + 1 = _; rw [ih]; rfl
theorem whos_len (n : Nat) : (whos n).length = n := by simp [whos]
/-- What stands behind the plan. -/
def endT (bs : List Bool) (l : List SimD) (pk : Nat) : WT := ⟨haveQ bs :: wants (bs.getD 0 false) (bs.getD 1 false) (bs.getD 2 false) (bs.getD 3 false) 0 l, pk, whos l.length, l.length⟩
theorem plan_end (bs : List Bool) (ls : List (SimD × Value)) (N : Nat) (hl : ls.length = N) (h1 : 1 ≤ N) (h6 : N ≤ 6) (hs : SimsOk ls) : (planM (ls.map (·.1)) (opFrom 0 bs)).steps.length ≤ 200 ∧ ∃ pk, pk ≤ 5 ∧ runT (planM (ls.map (·.1)) (opFrom 0 bs)).steps { d0T with fds := [haveQ bs] } = some (endT bs (ls.map (·.1)) pk) := by
  rw [opFrom_getD]
  have h := plan_law (bs.getD 0 false) (bs.getD 1 false) (bs.getD 2 false) (bs.getD 3 false) (ls.map (·.1)) (by intro e; rw [List.map_eq_nil_iff] at e; subst e; simp at hl; omega) (by rw [List.length_map]; omega) (fun i s h => by
    rw [List.getElem?_map, Option.map_eq_some_iff] at h
    obtain ⟨x, hx, rfl⟩ := h
    exact hs i x hx)
  obtain ⟨ha, pk, hp, hr⟩ := h
  exact ⟨ha, pk, hp, hr⟩
def StRel (wc w3 : World) (gw k2 : Nat) (L : List StepD) (dE : WT) (v107 : Value) (wr : World) : Prop :=
  ∃ (i N E : Nat) (d : WT) (ms : List Nat) (Af Ae : Option Addr) (cf ce : Nat), i ≤ L.length ∧ v107 = .int .i64 i ∧ runT (L.drop i) d = some dE ∧ WAt wc w3 w3.heap.size gw (k2 + 2 * i) N E d ms Af cf Ae ce wr
/- The last loop: the map 'want'. -/
def noF : FdT := [.no, .no, .no, .no, .no, .no, .no, .no]
def hvL (zs : List Int) : FdT := zs.foldl (fun f z => f.set z.toNat (.old z.toNat)) noF
theorem hvL_take (zs : List Int) (j : Nat) (hj : j < zs.length) : hvL (zs.take (j + 1)) = (hvL (zs.take j)).set (zs[j]).toNat (.old (zs[j]).toNat) := by
  unfold hvL
  rw [List.take_succ_eq_append_getElem hj, List.foldl_append]
  rfl
theorem hvL_have (bs : List Bool) : hvL (opFrom 0 bs) = haveQ bs := by
  rw [opFrom_getD]
  unfold haveQ
  generalize bs.getD 0 false = b0
  generalize bs.getD 1 false = b1
  generalize bs.getD 2 false = b2
  generalize bs.getD 3 false = b3
  cases b0 <;> cases b1 <;> cases b2 <;> cases b3 <;> rfl
theorem old_at (bs : List Bool) : ∀ z ∈ opFrom 0 bs, atT (haveQ bs) z = .old z.toNat := by
  rw [opFrom_getD]
  unfold haveQ
  generalize bs.getD 0 false = b0
  generalize bs.getD 1 false = b1
  generalize bs.getD 2 false = b2
  generalize bs.getD 3 false = b3
  cases b0 <;> cases b1 <;> cases b2 <;> cases b3 <;> decide
structure WtAt (w5 : World) (mW K : Nat) (f : FdT) (wx : World) : Prop where
  m : FdAt wx mW K f
  x : Ext w5 wx
  lo : w5.heap.size ≤ mW
section
variable {w5 wx wy : World} {mW K : Nat} {f : FdT}
theorem WtAt.mono {K' : Nat} (h : WtAt w5 mW K f wx) (hK : K ≤ K') : WtAt w5 mW K' f wx := ⟨h.m.mono hK, h.x, h.lo⟩
theorem WtAt.ext (h : WtAt w5 mW K f wx) (hx : Ext wx wy) : WtAt w5 mW K f wy := ⟨h.m.ext hx, h.x.trans hx, h.lo⟩
theorem WtAt.put (h : WtAt w5 mW K f wx) (hK : K ≤ 100) (x : Int) (h0 : 0 ≤ x) (h8 : x < 8) (t : Tok) (ht : t ≠ .no) :
    ∃ w', (Instr.mapUpdate 44 (.map (some mW)) (.int .i64 x) (.string (str (tokS t)))).run Try.prog wx = .ok () w' ∧ WtAt w5 mW (K + 1) (f.set x.toNat t) w' := by
  obtain ⟨w', hrun, hm, hg⟩ := h.m.putI (by simp only [maxLen]; omega) x h0 h8 t ht (tokS_len t)
  exact ⟨w', hrun, hm, h.x.grown hg (fun k hk => by injection hk with hk; rw [← hk]; exact h.lo), h.lo⟩
end
theorem wants_at (b0 b1 b2 b3 : Bool) : ∀ (l : List SimD) (k i : Nat) (s : SimD), l[i]? = some s → (wants b0 b1 b2 b3 k l)[i]? = some (wantT b0 b1 b2 b3 (k + i) s (decide (i + 1 = l.length))) := by
  intro l
  induction l with
  | nil => intro k i s h; cases h
  | cons a l ih =>
    intro k i s h
    cases i with
    | zero =>
      injection h with h
      subst h
      show some (wantT b0 b1 b2 b3 k a (decide (l = []))) = _
      rw [show decide (l = []) = decide (0 + 1 = (a :: l).length) by cases l <;> simp]
      rfl
    | succ i =>
      have := ih (k + 1) i s h
      show (wants b0 b1 b2 b3 (k + 1) l)[i]? = _
      rw [this, show k + 1 + i = k + (i + 1) by omega, show decide (i + 1 = l.length) = decide (i + 1 + 1 = (a :: l).length) by simp]
def CkRel (w4 : World) (N : Nat) (v : Value) (wr : World) : Prop := ∃ k : Nat, k ≤ N ∧ v = .int .i64 k ∧ Ext w4 wr
def InRelW (w5 : World) (mW k2 : Nat) (zs : List Int) (v : Value) (wr : World) : Prop := ∃ j : Nat, j ≤ k2 ∧ v = .int .i64 j ∧ WtAt w5 mW j (hvL (zs.take j)) wr
def wF1 (bs : List Bool) (k : Nat) : FdT := if 0 < k then (haveQ bs).set 0 (.rd (k - 1)) else haveQ bs
def wF2 (bs : List Bool) (k N : Nat) : FdT := if k + 1 = N then wF1 bs k else (wF1 bs k).set 1 (.wr k)
def wF3 (bs : List Bool) (k N : Nat) (ri : Bool) : FdT := if ri = true then (wF2 bs k N).set 0 .fin else wF2 bs k N
def wF4 (bs : List Bool) (k N : Nat) (ri ro rm : Bool) : FdT := if ro = true then (wF3 bs k N ri).set 1 (if rm = true then .foutm else .fout) else wF3 bs k N ri
theorem want_eq (bs : List Bool) (k N : Nat) (ri ro rm : Bool) : wantT (bs.getD 0 false) (bs.getD 1 false) (bs.getD 2 false) (bs.getD 3 false) k (simK k ri ro rm) (decide (k + 1 = N)) = wF4 bs k N ri ro rm := by
  unfold wantT wF4 wF3 wF2 wF1
  rw [← haveQ_all]
  dsimp only [simK]
  by_cases h1 : 0 < k <;> by_cases h2 : k + 1 = N <;> cases ri <;> cases ro <;> cases rm <;> (try simp [h1, h2, inS, outS]) <;> (try rfl)
theorem str_nil_eq : ((str ([] : BsI)).toList == []) = true := by rw [Go.Lib.toList_data, str_listI]; rfl
theorem str_emp_eq : (str ([] : BsI)).toList.isEmpty = true := by rw [Go.Lib.toList_data, str_listI]; rfl
theorem str_emp_ne {l : BsI} (h : l ≠ []) : (str l).toList.isEmpty = false := by
  rw [Go.Lib.toList_data, str_listI]
  cases l with
  | nil => exact absurd rfl h
  | cons a l => rfl
end Go.Proofs.Ytikpdhkjkmbomaa
