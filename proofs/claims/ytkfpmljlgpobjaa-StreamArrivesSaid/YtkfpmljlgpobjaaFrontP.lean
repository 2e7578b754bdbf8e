/- What turns keep of a pair: what is read is a beginning of what was written. Plain laws. -/
import Derived.Test.YtkfpmljlgpobjaaFlowP
import Derived.Test.YtkfpmljlgpobjaaTurnsP
import Derived.Test.YtkfpmljlgpobjaaTalkP
namespace Go.Proofs.Ytkfpmljlgpobjaa
open Go.RowKit
set_option linter.unusedVariables false

def SafeP (iss : Nat → Int) (d : PairD) : Prop := Safe iss d.e d.p d.g (fun i s => s ∈ d.y i)
def PutLe (d : PairD) (B : Nat) : Prop := ∀ i, i < 2 → (d.p i).length ≤ B
theorem safe_sayI {iss : Nat → Int} {d : PairD} (h : SafeP iss d) (hp : PutLe d 100000) {i : Nat} (hi : i < 2) : SafeP iss (sayI d i) := by
  refine (Safe.out h hp hi).less (fun j hj s hs => ?_)
  by_cases e : j = 1 - i
  · subst e
    have : s ∈ d.y (1 - i) ++ (outE (d.e i)).2.take 70 := by simpa [sayI, upd] using hs
    rcases List.mem_append.1 this with h1 | h1
    · exact .inl h1
    · exact .inr ⟨rfl, List.mem_of_mem_take h1⟩
  · have : s ∈ d.y j := by
      have h2 : (sayI d i).y j = d.y j := upd_other _ _ e
      rwa [h2] at hs
    exact .inl this
theorem safe_sayP {iss : Nat → Int} {d : PairD} (h : SafeP iss d) (hp : PutLe d 100000) : SafeP iss (sayP d) :=
  safe_sayI (safe_sayI h hp (by omega)) hp (by omega)
theorem mem_upd {α : Type} {f : Nat → List α} {i j : Nat} {l : List α} {s : α} (hl : ∀ x ∈ l, x ∈ f i) (hs : s ∈ upd f i l j) : s ∈ f j := by
  unfold upd at hs
  split at hs
  · rename_i e
    subst e
    exact hl s hs
  · exact hs
theorem safe_getI {iss : Nat → Int} {d : PairD} (h : SafeP iss d) (hp : PutLe d 100000) {i : Nat} (hi : i < 2) (k : Nat) : SafeP iss (getI d i k) := by
  unfold getI
  split
  · rename_i s hs
    exact (Safe.come h hp hi (List.mem_of_getElem? hs)).less (fun j hj x hx => mem_upd (fun y hy => List.mem_of_mem_eraseIdx hy) hx)
  · exact h
theorem safe_readI {iss : Nat → Int} {d : PairD} (h : SafeP iss d) {i : Nat} (hi : i < 2) : SafeP iss (readI d i) := by
  unfold readI
  split
  · exact h
  · exact Safe.read h hi 64
theorem safe_tickI {iss : Nat → Int} {d : PairD} (h : SafeP iss d) {i : Nat} (hi : i < 2) : SafeP iss (tickI d i) := Safe.tick h hi
theorem safe_turnI {iss : Nat → Int} {d : PairD} (h : SafeP iss d) (hp : PutLe d 100000) (tk : Nat) (t : TurnD) : SafeP iss (turnI d tk t).1 := by
  have hi := endOf_lt t
  unfold turnI
  dsimp only
  split
  · exact Safe.write h hi _
  split
  · exact safe_readI h hi
  split
  · dsimp only
    split
    · exact Safe.less h (fun j hj x hx => mem_upd (fun y hy => List.mem_of_mem_eraseIdx hy) hx)
    · exact h
  split
  · dsimp only
    split
    · refine Safe.less h (fun j hj x hx => mem_upd (fun y hy => ?_) hx)
      rcases List.mem_append.1 hy with h1 | h1
      · exact h1
      · exact List.mem_of_getElem? (Option.mem_toList.1 h1)
    · exact h
  split
  · dsimp only
    split
    · exact safe_getI h hp hi _
    · exact h
  · dsimp only
    split
    · exact safe_tickI (safe_tickI h (by omega)) (by omega)
    · exact h
theorem put_turnI {d : PairD} {B : Nat} (h : PutLe d B) (tk : Nat) (t : TurnD) : PutLe (turnI d tk t).1 (B + 40) := by
  have base : PutLe d (B + 40) := fun i hi => Nat.le_trans (h i hi) (by omega)
  unfold turnI
  dsimp only
  split
  · intro j hj
    have h1 := h j hj
    have h2 := h _ (endOf_lt t)
    simp only [writeI, upd]
    split
    · rw [List.length_append, List.length_take, List.length_take]; omega
    · omega
  split
  · have : (readI d (endOf t)).p = d.p := by unfold readI; split <;> rfl
    intro j hj
    dsimp only
    rw [this]
    exact base j hj
  split
  · dsimp only
    split <;> exact base
  split
  · dsimp only
    split <;> exact base
  split
  · dsimp only
    split
    · unfold getI
      split <;> exact base
    · exact base
  · dsimp only
    split <;> exact base
theorem front_turns {iss : Nat → Int} (l : List TurnD) : ∀ (s : PairD × Nat) (B : Nat), SafeP iss s.1 → PutLe s.1 B → B + 40 * l.length ≤ 100000 → SafeP iss (l.foldl turnP s).1 ∧ PutLe (l.foldl turnP s).1 (B + 40 * l.length) := by
  induction l with
  | nil => exact fun s B h hp _ => ⟨h, hp⟩
  | cons x l ih =>
    intro s B h hp hB
    rw [List.length_cons] at hB
    have p1 := put_turnI hp s.2 x
    obtain ⟨h1, h2⟩ := ih (turnP s x) (B + 40) (safe_sayP (safe_turnI h (fun i hi => Nat.le_trans (hp i hi) (by omega)) s.2 x) (fun i hi => Nat.le_trans (p1 i hi) (by omega))) p1 (by omega)
    refine ⟨h1, fun i hi => Nat.le_trans (h2 i hi) (by rw [List.length_cons]; omega)⟩
theorem safe_start (a b : Int) : SafeP (issF a b) (sayP (beginP a b)) :=
  safe_sayP ((safe_begin a b rfl rfl (fun _ => rfl) (fun _ => rfl)).less (fun _ _ s hs => by simp [beginP] at hs)) (fun i hi => by simp [beginP])
theorem safe_turns (a b : Int) (ts : List TurnD) : SafeP (issF a b) (turnsP (sayP (beginP a b)) ts).1 ∧ PutLe (turnsP (sayP (beginP a b)) ts).1 1600 := by
  have hl : (ts.take 40).length ≤ 40 := by rw [List.length_take]; omega
  obtain ⟨h1, h2⟩ := front_turns (ts.take 40) (sayP (beginP a b), 0) 0 (safe_start a b) (fun i hi => Nat.le_refl 0) (by omega)
  exact ⟨h1, fun i hi => Nat.le_trans (h2 i hi) (by omega)⟩
/-- What is read at each end in the end. -/
theorem front (a b : Int) (ts : List TurnD) : ∃ x y, (readI (readI (turnsP (sayP (beginP a b)) ts).1 0) 1).p 0 = (readI (readI (turnsP (sayP (beginP a b)) ts).1 0) 1).g 1 ++ x ∧ (readI (readI (turnsP (sayP (beginP a b)) ts).1 0) 1).p 1 = (readI (readI (turnsP (sayP (beginP a b)) ts).1 0) 1).g 0 ++ y ∧ PutLe (readI (readI (turnsP (sayP (beginP a b)) ts).1 0) 1) 1600 := by
  obtain ⟨h1, h2⟩ := safe_turns a b ts
  have h3 := safe_readI (safe_readI h1 (i := 0) (by omega)) (i := 1) (by omega)
  obtain ⟨x, hx⟩ := Safe.prefix h3 (i := 1) (by omega)
  obtain ⟨y, hy⟩ := Safe.prefix h3 (i := 0) (by omega)
  have hr : ∀ (d : PairD) (i : Nat), (readI d i).p = d.p := fun d i => by unfold readI; split <;> rfl
  refine ⟨x, y, hx.symm, hy.symm, fun i hi => ?_⟩
  rw [hr, hr]
  exact h2 i hi
/-- A second pair, at which one byte is written. -/
theorem one_said {X Y : Int} (hX : U32 X) (hY : U32 Y) (x : List UInt8) (hx : x.length ≤ 64) (p0 p1 g0 g1 : List UInt8) :
    roundsT 3 ⟨full X Y x, opn Y X false, [], [], p0, p1, g0, g1⟩ = ⟨opn (plus X x.length) (plus Y 0) false, opn (plus Y 0) (plus X x.length) false, [], [], p0, p1, g0 ++ [], g1 ++ x⟩ := by
  have e : opn Y X false = full Y X [] := rfl
  have h2 : roundsT 2 ⟨full X Y x, full Y X [], [], [], p0, p1, g0, g1⟩ = ⟨opn (plus X x.length) (plus Y 0) false, opn (plus Y 0) (plus X x.length) false, [], [], p0, p1, g0 ++ [], g1 ++ x⟩ := by
    show roundT (roundT ⟨full X Y x, full Y X [], [], [], p0, p1, g0, g1⟩) = _
    rw [talk_1 hX hY hx (y := []) (by simp), talk_2 hX hY hx (y := []) (by simp)]
    rfl
  rw [show 3 = 1 + 2 from rfl, roundsT_add, e, h2, idle (plus_u _ _) (plus_u _ _)]
end Go.Proofs.Ytkfpmljlgpobjaa
