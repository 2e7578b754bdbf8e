/- Two ends and all that is on its way between them: what every deed keeps. Plain laws. -/
import Derived.Test.YtacfffegmmdgfaaFlow
namespace Go.Proofs.Ytacfffegmmdgfaa
open Go.RowKit
set_option linter.unusedVariables false

/-- A segment on its way to end i. -/
def Leg (iss : Nat → Int) (p : Nat → List UInt8) (t r : Nat → Nat) (i : Nat) (s : SegD) : Prop := SegI (iss i) (iss (1 - i)) (p (1 - i)) (t (1 - i)) (r (1 - i)) s
structure PairI (iss : Nat → Int) (e : Nat → EndD) (p g : Nat → List UInt8) (u n t r : Nat → Nat) : Prop where
  end_ : ∀ i, i < 2 → EndI (iss i) (iss (1 - i)) (p i) (p (1 - i)) (g i) (u i) (n i) (t i) (r i) (e i)
  rt : ∀ i, i < 2 → r (1 - i) ≤ t i
  ur : ∀ i, i < 2 → u i ≤ r (1 - i)
def Safe (iss : Nat → Int) (e : Nat → EndD) (p g : Nat → List UInt8) (M : Nat → SegD → Prop) : Prop :=
  ∃ u n t r, PairI iss e p g u n t r ∧ ∀ i, i < 2 → ∀ s, M i s → Leg iss p t r i s
theorem one_sub {i : Nat} (h : i < 2) : 1 - i < 2 ∧ 1 - (1 - i) = i ∧ 1 - i ≠ i := by omega
theorem other2 {i j : Nat} (hi : i < 2) (hj : j < 2) (h : j ≠ i) : j = 1 - i := by omega
theorem EndI.tle {iss iss' : Int} {P P' G : List UInt8} {u n t r : Nat} {e : EndD} (h : EndI iss iss' P P' G u n t r e) : t ≤ P.length + 1 := by have := h.len; split at this <;> omega
section
variable {iss : Nat → Int} {e : Nat → EndD} {p g : Nat → List UInt8} {u n t r : Nat → Nat} {M : Nat → SegD → Prop}
theorem Safe.less {M' : Nat → SegD → Prop} (h : Safe iss e p g M) (hm : ∀ i, i < 2 → ∀ s, M' i s → M i s) : Safe iss e p g M' := by
  obtain ⟨u, n, t, r, h1, h2⟩ := h
  exact ⟨u, n, t, r, h1, fun i hi s hs => h2 i hi s (hm i hi s hs)⟩
/-- End i turns, with what it has answered, said and received. -/
theorem PairI.put (h : PairI iss e p g u n t r) {i : Nat} (hi : i < 2) {e' : EndD} {u' n' t' r' : Nat} (he : EndI (iss i) (iss (1 - i)) (p i) (p (1 - i)) (g i) u' n' t' r' e') (ht : t i ≤ t') (hr : r i ≤ r') (hrt : r' ≤ t (1 - i)) (hur : u' ≤ r (1 - i)) :
    PairI iss (upd e i e') p g (upd u i u') (upd n i n') (upd t i t') (upd r i r') := by
  obtain ⟨o1, o2, o3⟩ := one_sub hi
  refine ⟨fun j hj => ?_, fun j hj => ?_, fun j hj => ?_⟩
  · by_cases hij : j = i
    · subst hij
      rw [upd_same, upd_same, upd_same, upd_same, upd_same]
      exact he
    · rw [upd_other _ _ hij, upd_other _ _ hij, upd_other _ _ hij, upd_other _ _ hij, upd_other _ _ hij]
      exact h.end_ j hj
  · by_cases hij : j = i
    · subst hij
      rw [upd_same, upd_other _ _ o3]
      exact Nat.le_trans (h.rt j hj) ht
    · have hj2 := other2 hi hj hij
      subst hj2
      rw [o2, upd_same, upd_other _ _ o3]
      exact hrt
  · by_cases hij : j = i
    · subst hij
      rw [upd_same, upd_other _ _ o3]
      exact hur
    · have hj2 := other2 hi hj hij
      subst hj2
      rw [o2, upd_same, upd_other _ _ o3]
      exact Nat.le_trans (by have := h.ur (1 - i) o1; rwa [o2] at this) hr
theorem Safe.come (h : Safe iss e p g M) (hp : ∀ i, i < 2 → (p i).length ≤ 100000) {i : Nat} (hi : i < 2) {s : SegD} (hs : M i s) : Safe iss (upd e i (comeS (e i) s)) p g M := by
  obtain ⟨u, n, t, r, h1, h2⟩ := h
  obtain ⟨o1, o2, o3⟩ := one_sub hi
  have hrt := h1.rt (1 - i) o1
  rw [o2] at hrt
  obtain ⟨u', n', r', g1, g2, g3, g4⟩ := (h1.end_ i hi).come_ (hp i hi) (hp _ o1) hrt (h1.end_ _ o1).tle (h1.rt i hi) (h1.ur i hi) (h2 i hi s hs)
  refine ⟨upd u i u', upd n i n', upd t i (t i), upd r i r', h1.put hi g1 (Nat.le_refl _) g2 g3 g4, fun j hj s' hs' => ?_⟩
  have ht : upd t i (t i) = t := by funext k; unfold upd; split <;> simp_all
  rw [ht]
  obtain ⟨q1, q2, q3⟩ := one_sub hj
  have hl := h2 j hj s' hs'
  unfold Leg at hl ⊢
  refine SegI.mono hl (List.prefix_refl _) (Nat.le_refl _) ?_ (fun _ => rfl) (h1.end_ _ q1).tle (h1.end_ _ q1).tle
  by_cases hij : 1 - j = i
  · rw [hij, upd_same]
    exact g2
  · rw [upd_other _ _ hij]
    exact Nat.le_refl _
theorem Safe.out (h : Safe iss e p g M) (hp : ∀ i, i < 2 → (p i).length ≤ 100000) {i : Nat} (hi : i < 2) : Safe iss (upd e i (outE (e i)).1) p g (fun j s => M j s ∨ j = 1 - i ∧ s ∈ (outE (e i)).2) := by
  obtain ⟨u, n, t, r, h1, h2⟩ := h
  obtain ⟨o1, o2, o3⟩ := one_sub hi
  obtain ⟨n', t', g1, g2, g3, g4⟩ := (h1.end_ i hi).out_ (hp i hi)
  have hrt := h1.rt (1 - i) o1
  rw [o2] at hrt
  refine ⟨upd u i (u i), upd n i n', upd t i t', upd r i (r i), h1.put hi g1 g2 (Nat.le_refl _) hrt (h1.ur i hi), fun j hj s' hs' => ?_⟩
  have hr : upd r i (r i) = r := by funext k; unfold upd; split <;> simp_all
  rw [hr]
  obtain ⟨q1, q2, q3⟩ := one_sub hj
  rcases hs' with hs' | ⟨rfl, hs'⟩
  · have hl := h2 j hj s' hs'
    unfold Leg at hl ⊢
    by_cases hij : 1 - j = i
    · subst hij
      rw [upd_same]
      exact SegI.mono hl (List.prefix_refl _) g2 (Nat.le_refl _) (fun _ => rfl) (h1.end_ _ q1).tle g1.tle
    · rw [upd_other _ _ hij]
      exact hl
  · unfold Leg
    rw [o2, upd_same]
    exact g4 s' hs'
theorem Safe.tick (h : Safe iss e p g M) {i : Nat} (hi : i < 2) : Safe iss (upd e i (tickE (e i))) p g M := by
  obtain ⟨u, n, t, r, h1, h2⟩ := h
  obtain ⟨o1, o2, o3⟩ := one_sub hi
  obtain ⟨n', g1, g2⟩ := (h1.end_ i hi).tick_
  have hrt := h1.rt (1 - i) o1
  rw [o2] at hrt
  refine ⟨upd u i (u i), upd n i n', upd t i (t i), upd r i (r i), h1.put hi g1 (Nat.le_refl _) (Nat.le_refl _) hrt (h1.ur i hi), fun j hj s' hs' => ?_⟩
  have hr : upd r i (r i) = r := by funext k; unfold upd; split <;> simp_all
  have ht : upd t i (t i) = t := by funext k; unfold upd; split <;> simp_all
  rw [hr, ht]
  exact h2 j hj s' hs'
theorem Safe.shut (h : Safe iss e p g M) {i : Nat} (hi : i < 2) : Safe iss (upd e i (shutE (e i)).1) p g M := by
  obtain ⟨u, n, t, r, h1, h2⟩ := h
  obtain ⟨o1, o2, o3⟩ := one_sub hi
  have hrt := h1.rt (1 - i) o1
  rw [o2] at hrt
  refine ⟨upd u i (u i), upd n i (n i), upd t i (t i), upd r i (r i), h1.put hi (h1.end_ i hi).shut_ (Nat.le_refl _) (Nat.le_refl _) hrt (h1.ur i hi), fun j hj s' hs' => ?_⟩
  have hr : upd r i (r i) = r := by funext k; unfold upd; split <;> simp_all
  have ht : upd t i (t i) = t := by funext k; unfold upd; split <;> simp_all
  rw [hr, ht]
  exact h2 j hj s' hs'
theorem Safe.read (h : Safe iss e p g M) {i : Nat} (hi : i < 2) (k : Nat) : Safe iss (upd e i (readTo (e i) k)) p (upd g i (g i ++ (e i).inn.take (readN (e i) k))) M := by
  obtain ⟨u, n, t, r, h1, h2⟩ := h
  refine ⟨u, n, t, r, ⟨fun j hj => ?_, h1.rt, h1.ur⟩, h2⟩
  by_cases hij : j = i
  · subst hij
    rw [upd_same, upd_same]
    exact (h1.end_ j hj).read_ k
  · rw [upd_other _ _ hij, upd_other _ _ hij]
    exact h1.end_ j hj
theorem Safe.write (h : Safe iss e p g M) {i : Nat} (hi : i < 2) (ds : List UInt8) : Safe iss (upd e i (writeE (e i) ds).1) (upd p i (p i ++ ds.take (writeE (e i) ds).2.1)) g M := by
  obtain ⟨u, n, t, r, h1, h2⟩ := h
  obtain ⟨o1, o2, o3⟩ := one_sub hi
  obtain ⟨g1, g2, g3⟩ := (h1.end_ i hi).write_ ds
  have hno : t i = (p i).length + 1 → ds.take (writeE (e i) ds).2.1 = [] := fun ht => by
    refine g3 ?_
    have := (h1.end_ i hi).len
    cases hs : (e i).shut with
    | true => rfl
    | false => rw [hs] at this; simp only [Bool.false_eq_true, if_false] at this; omega
  have hrt := h1.rt i hi
  refine ⟨u, n, t, r, ⟨fun j hj => ?_, h1.rt, h1.ur⟩, fun j hj s' hs' => ?_⟩
  · by_cases hij : j = i
    · subst hij
      rw [upd_same, upd_same, upd_other _ _ o3]
      exact g1
    · have hj2 := other2 hi hj hij
      subst hj2
      rw [upd_other _ _ o3, upd_other _ _ o3, o2, upd_same]
      have h3 := h1.end_ (1 - i) o1
      rw [o2] at h3
      refine h3.peer_ (fun hr => hno ?_)
      have := (h1.end_ i hi).tle
      omega
  · have hl := h2 j hj s' hs'
    obtain ⟨q1, q2, q3⟩ := one_sub hj
    unfold Leg at hl ⊢
    by_cases hij : 1 - j = i
    · subst hij
      rw [upd_same]
      exact SegI.mono hl (List.prefix_append _ _) (Nat.le_refl _) (Nat.le_refl _) (fun ht => by rw [hno ht, List.append_nil]) (h1.end_ _ q1).tle g1.tle
    · rw [upd_other _ _ hij]
      exact hl
theorem Safe.prefix (h : Safe iss e p g M) {i : Nat} (hi : i < 2) : g i <+: p (1 - i) := by
  obtain ⟨u, n, t, r, h1, h2⟩ := h
  have hg := (h1.end_ i hi).got
  exact ⟨(e i).inn ++ (p (1 - i)).drop (r i), by rw [← List.append_assoc, hg, List.take_append_drop]⟩
theorem Safe.whole (h : Safe iss e p g M) {i : Nat} (hi : i < 2) (hf : (e i).fin = true) (hn : (e i).inn = []) : g i = p (1 - i) := by
  obtain ⟨u, n, t, r, h1, h2⟩ := h
  have hg := (h1.end_ i hi).got
  have hr := (h1.end_ i hi).fin
  rw [if_pos hf] at hr
  rw [hn, List.append_nil, List.take_of_length_le (by omega)] at hg
  exact hg
end
/-- Two ends that have begun. -/
theorem endI_call (a b : Int) : EndI a b [] [] [] 0 0 0 0 (beginE 2 a) :=
  ⟨by simp, Nat.le_refl _, Nat.le_refl _, by simp [beginE, sq], rfl, rfl, by simp [beginE], fun _ => ⟨rfl, rfl, rfl, .inl rfl, .inl rfl⟩, fun h => absurd (show (2 : Int) = 4 from h) (by omega), fun h => absurd (show (2 : Int) = 3 ∨ (2 : Int) = 4 from h) (by omega), ⟨by show (1 : Int) ≤ 2; omega, by show (2 : Int) ≤ 5; omega⟩⟩
theorem endI_listen (a b : Int) : EndI a b [] [] [] 0 0 0 0 (beginE 1 a) :=
  ⟨by simp, Nat.le_refl _, Nat.le_refl _, by simp [beginE, sq], rfl, rfl, by simp [beginE], fun _ => ⟨rfl, rfl, rfl, .inl rfl, .inl rfl⟩, fun h => absurd (show (1 : Int) = 4 from h) (by omega), fun h => absurd (show (1 : Int) = 3 ∨ (1 : Int) = 4 from h) (by omega), ⟨by show (1 : Int) ≤ 1; omega, by show (1 : Int) ≤ 5; omega⟩⟩
def issF (a b : Int) : Nat → Int := fun i => if i = 0 then a else b
theorem safe_begin (a b : Int) {e : Nat → EndD} {p g : Nat → List UInt8} (h0 : e 0 = beginE 2 a) (h1 : e 1 = beginE 1 b) (hp : ∀ i, p i = []) (hg : ∀ i, g i = []) : Safe (issF a b) e p g (fun _ _ => False) := by
  refine ⟨fun _ => 0, fun _ => 0, fun _ => 0, fun _ => 0, ⟨fun i hi => ?_, fun _ _ => Nat.le_refl _, fun _ _ => Nat.le_refl _⟩, fun _ _ _ h => h.elim⟩
  rw [hp, hp, hg]
  rcases lt2 hi with rfl | rfl
  · rw [h0]; exact endI_call _ _
  · rw [h1]; exact endI_listen _ _
end Go.Proofs.Ytacfffegmmdgfaa
