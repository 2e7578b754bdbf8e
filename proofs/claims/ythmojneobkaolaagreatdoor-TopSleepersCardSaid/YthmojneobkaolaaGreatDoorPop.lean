/- A region that draws its order, whose last operation waits for all the others: the others may be run by themselves (with a condition that the last one may break), the last one behind them. Plain theorems. -/
import Derived.Deep.RegionHeld3
import Derived.StillTail
namespace Go.Proofs.YthmojneobkaolaaGreatDoor
open Go

/-- The post of the region without its last operation. -/
def PopQ (P : Program) (ops : Array Oper) (n : Nat) (Q : Exit → Act → World → Prop) : Exit → Act → World → Prop
  | .normal, a, w => wpOp P ops Q n (fun a' w' => Q .normal a' w') a w
  | e, a, w => Q e a w

/-- The conditions, to be decided. -/
def popB (l : List Oper) (o : Oper) : Bool :=
  Region.sinkB .any (l ++ [o]).toArray l.length && Region.chainB .any (l ++ [o]).toArray l.length
    && (List.range l.length).all (fun j => match l[j]? with | some oj => oj.guard.isNone && oj.after.all (fun e => decide (e.on < j)) | none => false)
    && o.after.all (fun e => decide (e.on < l.length))

section
variable {P : Program} {l : List Oper} {o : Oper} {Q : Exit → Act → World → Prop} {S : World → Prop}
theorem pop_get {i : Nat} (h : i < l.length) : (l ++ [o]).toArray[i]? = l.toArray[i]? := by
  simp [List.getElem?_append_left h]
theorem pop_getD {X : Array Bool} {i : Nat} (d : Bool) (h : i < X.size) : (X.push false).getD i d = X.getD i d := by
  simp [Array.getElem?_push, Nat.ne_of_lt h]
theorem pop_ready {X : Array Bool} {i : Nat} (hX : X.size = l.length)
    (hb : ∀ (j : Nat) (oj : Oper), l[j]? = some oj → ∀ e ∈ oj.after, e.on < j) (hi : i < l.length) :
    i ∈ Region.ready .any (l ++ [o]).toArray (X.push false) ↔ i ∈ Region.ready .any l.toArray X := by
  rw [mem_ready, mem_ready, pop_get hi, pop_getD true (by omega)]
  constructor
  · rintro ⟨h0, oi, hoi, hall⟩
    exact ⟨h0, oi, hoi, fun e he hbd => by
      have := hb i oi (by simpa using hoi) e he
      rw [← pop_getD false (by omega)]; exact hall e he hbd⟩
  · rintro ⟨h0, oi, hoi, hall⟩
    exact ⟨h0, oi, hoi, fun e he hbd => by
      have := hb i oi (by simpa using hoi) e he
      rw [pop_getD false (by omega)]; exact hall e he hbd⟩
theorem pop_op {i : Nat} {K : Act → World → Prop} {a : Act} {w : World} (hi : i < l.length) (hg : ∀ (j : Nat) (oj : Oper), l[j]? = some oj → oj.guard = none)
    (h : wpOp P l.toArray (PopQ P (l ++ [o]).toArray l.length Q) i K a w) : wpOp P (l ++ [o]).toArray Q i K a w := by
  unfold wpOp at *
  rw [pop_get hi]
  have hli : l.toArray[i]? = some l[i] := by simp [hi]
  rw [hli] at h ⊢
  have hgi := hg i l[i] (by simp [hi])
  have w1 : ∀ y, Region.wanted l[i] y = true := fun y => by simp [Region.wanted, hgi]
  dsimp only at h ⊢
  rw [if_pos (w1 _)] at h ⊢
  rcases h with h | ⟨h1, h2⟩
  · left
    unfold Oper.wp at *
    generalize (execOp a.eval l[i]).run P w = r at *
    cases r with
    | ok n w' => cases n <;> exact h
    | halt x w' => cases x <;> exact h
  · exact Or.inr ⟨h1, h2⟩

theorem pop_walk (hp : popB l o = true) : ∀ (fuel : Nat) (X : Array Bool) (a : Act) (w : World), X.size = l.length →
    HeadInv .any (l ++ [o]).toArray l.length (X.push false) →
    wpAnyH P .any l.toArray (PopQ P (l ++ [o]).toArray l.length Q) S fuel X a w → wpAny P .any (l ++ [o]).toArray Q (fuel + 1) (X.push false) a w := by
  simp only [popB, Bool.and_eq_true] at hp
  obtain ⟨⟨⟨hs, hc⟩, hl⟩, ho⟩ := hp
  have hlj : ∀ (j : Nat) (oj : Oper), l[j]? = some oj → oj.guard = none ∧ ∀ e ∈ oj.after, e.on < j := fun j oj hj => by
    have hjl := (List.getElem?_eq_some_iff.1 hj).1
    have := List.all_eq_true.1 hl j (List.mem_range.2 hjl)
    rw [hj] at this
    simp only [Bool.and_eq_true, Option.isNone_iff_eq_none] at this
    exact ⟨this.1, fun e he => by simpa using Array.all_eq_true'.1 this.2 e he⟩
  have hb : ∀ (j : Nat) (oj : Oper), l[j]? = some oj → ∀ e ∈ oj.after, e.on < j := fun j oj hj => (hlj j oj hj).2
  have hg : ∀ (j : Nat) (oj : Oper), l[j]? = some oj → oj.guard = none := fun j oj hj => (hlj j oj hj).1
  have hsz : (l ++ [o]).toArray.size = l.length + 1 := by simp
  have hn : (l ++ [o]).toArray[l.length]? = some o := by simp
  -- while one of the others is left, one of them may come up
  have some_ready : ∀ (X : Array Bool), X.size = l.length → Region.ready .any l.toArray X = [] → ∀ i, i < l.length → X.getD i true = true := fun X hX hr i => by
    induction i using Nat.strongRecOn with
    | _ i ih =>
      intro hi
      cases hc : X.getD i true with
      | true => rfl
      | false =>
        have : i ∈ Region.ready .any l.toArray X := mem_ready.2 ⟨hc, l[i], by simp [hi], fun e he _ => by
          have h1 := hb i l[i] (by simp [hi]) e he
          have h2 := ih e.on h1 (by omega)
          simp [show e.on < X.size by omega] at h2 ⊢
          exact h2⟩
        rw [hr] at this
        cases this
  have last : ∀ (X : Array Bool) (f : Nat) (a : Act) (w : World), X.size = l.length → Region.ready .any l.toArray X = [] →
      PopQ P (l ++ [o]).toArray l.length Q .normal a w → wpAny P .any (l ++ [o]).toArray Q (f + 1) (X.push false) a w := fun X f a w hX hr h => by
    have hall := some_ready X hX hr
    have hrn : l.length ∈ Region.ready .any (l ++ [o]).toArray (X.push false) := mem_ready.2 ⟨by simp [← hX], o, hn, fun e he _ => by
      have h1 : e.on < l.length := by simpa using Array.all_eq_true'.1 ho e he
      rw [pop_getD false (by omega)]
      have h2 := hall e.on h1
      simp [show e.on < X.size by omega] at h2 ⊢
      exact h2⟩
    have honly : ∀ i ∈ Region.ready .any (l ++ [o]).toArray (X.push false), i = l.length := fun i hi => by
      rcases Nat.lt_or_ge i l.length with h | h
      · have := (pop_ready (o := o) hX hb h).1 hi
        rw [hr] at this
        cases this
      · obtain ⟨_, oi, hoi, _⟩ := mem_ready.1 hi
        have := (Array.getElem?_eq_some_iff.1 hoi).1
        omega
    refine ⟨fun h0 => (by rw [h0] at hrn; cases hrn), fun i hi => ?_⟩
    obtain rfl := honly i hi
    refine wpOp_mono (fun a' w' h' => ?_) h
    have hnone : Region.ready .any (l ++ [o]).toArray ((X.push false).setIfInBounds l.length true) = [] := by
      rw [List.eq_nil_iff_forall_not_mem]
      intro i hi
      obtain ⟨h0, oi, hoi, hal⟩ := mem_ready.1 hi
      have h1 := (Array.getElem?_eq_some_iff.1 hoi).1
      by_cases hil : i = l.length
      · subst hil
        simp [← hX] at h0
      · rw [getD_set_ne true (Ne.symm hil), pop_getD true (by omega), hall i (by omega)] at h0
        cases h0
    cases f with
    | zero => exact ⟨hnone, h'⟩
    | succ f => exact ⟨fun _ => h', by rw [hnone]; simp⟩
  intro fuel
  induction fuel with
  | zero => exact fun X a w hX inv h => last X 0 a w hX h.1 h.2
  | succ fuel ih =>
    intro X a w hX inv h
    by_cases hr : Region.ready .any l.toArray X = []
    · exact last X (fuel + 1) a w hX hr (h.1 hr)
    · obtain ⟨i0, hi0⟩ := List.exists_mem_of_ne_nil _ hr
      have hi0l : i0 < l.length := by
        obtain ⟨_, oi, hoi, _⟩ := mem_ready.1 hi0
        simpa using (Array.getElem?_eq_some_iff.1 hoi).1
      have hlt : ∀ i ∈ Region.ready .any (l ++ [o]).toArray (X.push false), i < l.length := fun i hi => by
        rcases Nat.lt_or_ge i l.length with h' | h'
        · exact h'
        · exact absurd hi (tail_waits hs hc (by omega) inv _ i0 rfl hi0l (mem_ready.1 ((pop_ready (o := o) hX hb hi0l).2 hi0)).1 i h')
      refine ⟨fun h0 => ?_, fun i hi => ?_⟩
      · have := (pop_ready (o := o) hX hb hi0l).2 hi0
        rw [h0] at this
        cases this
      · have hil := hlt i hi
        refine pop_op hil hg (wpOp_mono (fun a' w' h' => ?_) (h.2 i ((pop_ready (o := o) hX hb hil).1 hi)))
        have hset : (X.push false).setIfInBounds i true = (X.setIfInBounds i true).push false := by
          apply Array.ext_getElem?
          intro k
          by_cases hik : i = k
          · subst hik
            have h1 : i < X.size := by omega
            rw [Array.getElem?_setIfInBounds, if_pos rfl, if_pos (by simp; omega), Array.getElem?_push, if_neg (by simp; omega), Array.getElem?_setIfInBounds, if_pos rfl, if_pos h1]
          · simp [Array.getElem?_push, Array.getElem?_setIfInBounds_ne hik]
        have inv2 := inv.set hi hil
        rw [hset] at inv2 ⊢
        exact ih _ a' w' (by simpa using hX) inv2 h'.2

/-- The others first, from the world behind the draw, with S behind each; the last one behind them. -/
theorem wp_region_pop {id : Nat} {a : Act} {w : World} (l : List Oper) (o : Oper) (hm : P.follows .mixedOrders = true) (hp : popB l o = true)
    (h : wpAnyH P .any l.toArray (PopQ P (l ++ [o]).toArray l.length Q) S l.length (Array.replicate l.length false) a w.drew) :
    (Code.region id (l ++ [o]).toArray true).wp P Q a w := by
  refine wp_region_any hm ?_
  have hrep : Array.replicate (l ++ [o]).toArray.size false = (Array.replicate l.length false).push false := by
    rw [show (l ++ [o]).toArray.size = l.length + 1 by simp, Array.replicate_succ]
  rw [hrep, show (l ++ [o]).toArray.size = l.length + 1 by simp]
  refine pop_walk hp l.length _ a _ (by simp) ⟨by simp, fun j oj _ hl => ?_, fun t ht ht' => ?_⟩ h
  · rw [← hrep, getD_replicate_false] at hl
    cases hl
  · rw [← hrep]
    exact getD_in (by simpa using ht') (getD_replicate_false _ _)
theorem pop_last {ops : Array Oper} {n : Nat} {o : Oper} {a : Act} {w : World} (ho : ops[n]? = some o) (h : wpList P ops Q [o] a w) : PopQ P ops n Q .normal a w := by
  show wpOp P ops Q n _ a w
  unfold wpOp
  simp only [ho]
  exact h
/-- The same for a region that stands written out: n of the others, then the last one. -/
theorem wp_region_pop_take {id : Nat} {a : Act} {w : World} {l : List Oper} {o : Oper} (n : Nat) (hl : l = l.take n ++ [o]) (hn : (l.take n).length = n) (hm : P.follows .mixedOrders = true) (hp : popB (l.take n) o = true)
    (hS : S w.drew) (h : S w.drew → wpAnyH P .any (l.take n).toArray (PopQ P l.toArray n Q) S n (Array.replicate n false) a w.drew) :
    (Code.region id l.toArray true).wp P Q a w := by
  have := wp_region_pop (id := id) (Q := Q) (S := S) (a := a) (w := w) (l.take n) o hm hp
  rw [← hl, hn] at this
  exact this (h hS)
end
end Go.Proofs.YthmojneobkaolaaGreatDoor
