/- Things in order: the records that RefsLife makes, and what they lead to. No program in sight. -/
import Derived.Test.YtlmcahgffakoiaaRefsPlain
namespace Go.Proofs.Ytlmcahgffakoiaa
open Go.RowKit

def isM (f : Nat → Option Int) : Nat → Bool := fun o => (f o).isSome
structure LifeInv (ys : List RecD) (f : Nat → Option Int) : Prop where
  clean : CleanS ys ys.length
  ok : ∀ r ∈ ys, r.Ok
  there : ∀ o, (stS ys).there o = (f o).isSome
  val : ∀ o k, f o = some k → -1 ≤ k ∧ k ≤ ys.length ∧ (stS ys).held o = max k 0 ∧ (stS ys).later o = decide (k = -1)
  far : ∀ o, 5 ≤ o → f o = none ∧ (stS ys).held o = 0
theorem LifeInv.start : LifeInv [] (fun _ => none) where
  clean := fun i h => absurd h (by simp)
  ok := by simp
  there := fun _ => rfl
  val := fun _ _ h => by cases h
  far := fun _ _ => ⟨rfl, rfl⟩
theorem LifeInv.next {ys : List RecD} {f : Nat → Option Int} (h : LifeInv ys f) (o : Nat) (ho : o < 5) (kd : Int) (v : Option Int)
    (hc : (f o = none ∧ kd = 5 ∧ v = some 1) ∨ (f o = some (-1) ∧ kd = 9 ∧ v = none) ∨ (f o = some 0 ∧ kd = 8 ∧ v = some (-1)) ∨ (∃ k, f o = some k ∧ 0 < k ∧ kd = 6 ∧ v = some (k + 1)) ∨ (∃ k, f o = some k ∧ 0 < k ∧ kd = 7 ∧ v = some (k - 1))) :
    LifeInv (ys ++ [⟨kd, 0, 1, (o : Int)⟩]) (updN f o v) := by
  have hth := h.there o
  have hval := h.val o
  have ok : RecD.Ok ⟨kd, 0, 1, (o : Int)⟩ := by
    rcases hc with ⟨_, rfl, _⟩ | ⟨_, rfl, _⟩ | ⟨_, rfl, _⟩ | ⟨k, _, _, rfl, _⟩ | ⟨k, _, _, rfl, _⟩ <;> constructor <;> dsimp only <;> omega
  have hok : ∀ r ∈ ys ++ [(⟨kd, 0, 1, (o : Int)⟩ : RecD)], r.Ok := fun r hr => by
    rcases List.mem_append.1 hr with hr | hr
    · exact h.ok r hr
    · rw [List.mem_singleton.1 hr]; exact ok
  have hlen : ((ys ++ [(⟨kd, 0, 1, (o : Int)⟩ : RecD)]).length : Int) = ys.length + 1 := by simp
  rcases hc with ⟨hf, rfl, rfl⟩ | ⟨hf, rfl, rfl⟩ | ⟨hf, rfl, rfl⟩ | ⟨k, hf, hk, rfl, rfl⟩ | ⟨k, hf, hk, rfl, rfl⟩
  all_goals
    rw [hf] at hth
    refine ⟨h.clean.snoc ?_, hok, fun x => ?_, fun x q hq => ?_, fun x hx => ?_⟩
    · first
      | (simp [okS, hth]; done)
      | (obtain ⟨a1, a2, a3, a4⟩ := hval _ hf
         simp [okS, hth, a3, a4]; try omega)
    · rw [stS_snoc]
      by_cases hx : x = o
      · subst hx; simp [stepS, updN, hth]
      · simp [stepS, updN, hx, h.there x]
    · rw [hlen, stS_snoc]
      by_cases hx : x = o
      · subst hx
        rw [updN_same] at hq
        first
        | (cases hq; done)
        | (simp only [Option.some.injEq] at hq
           subst hq
           first
           | (simp [stepS, updN]; done)
           | (simp [stepS, updN]; omega)
           | (obtain ⟨a1, a2, a3, a4⟩ := hval _ hf
              simp [stepS, updN, a3, a4]; omega)
           | (obtain ⟨a1, a2, a3, a4⟩ := hval _ hf
              simp [stepS, updN, a3, a4]))
      · rw [updN_other _ _ _ _ hx] at hq
        obtain ⟨a1, a2, a3, a4⟩ := h.val x q hq
        refine ⟨a1, by omega, ?_, ?_⟩
        · simp [stepS, updN, hx, a3]
        · simp [stepS, updN, hx, a4]
    · have hxo : x ≠ o := by omega
      obtain ⟨a1, a2⟩ := h.far x hx
      rw [updN_other _ _ _ _ hxo, stS_snoc]
      exact ⟨a1, by simp [stepS, updN, hxo, a2]⟩
theorem isM_upd (f : Nat → Option Int) (o : Nat) (v : Option Int) : isM (updN f o v) = updN (isM f) o v.isSome := by
  funext x
  unfold isM updN
  split <;> rfl
theorem upd_id (M : Nat → Bool) (o : Nat) (b : Bool) (h : M o = b) : updN M o b = M := by
  funext x
  unfold updN
  split
  · subst_vars; rfl
  · rfl
theorem count_put {f : Nat → Option Int} {s o : Nat} {v : Int} (hs : s = (setL (isM f) 64).length) (ho : o < 64) : (if (f o).isSome then s else s + 1) = (setL (isM (updN f o (some v))) 64).length := by
  rw [isM_upd]
  cases h : (f o).isSome with
  | true => rw [show (some v).isSome = true from rfl, upd_id _ _ _ (show isM f o = _ from h)]; simpa using hs
  | false => rw [show (some v).isSome = true from rfl, len_upd _ _ (show isM f o = false from h), if_pos ho, ← hs]; simp
theorem count_del {f : Nat → Option Int} {s o : Nat} (hs : s = (setL (isM f) 64).length) (ho : o < 64) : (if (f o).isSome then s - 1 else s) = (setL (isM (updN f o none)) 64).length := by
  rw [isM_upd]
  cases h : (f o).isSome with
  | false => rw [show (none : Option Int).isSome = false from rfl, upd_id _ _ _ (show isM f o = _ from h)]; simpa using hs
  | true =>
    have := len_del (isM f) o h 64
    rw [if_pos ho, ← hs] at this
    rw [show (none : Option Int).isSome = false from rfl]
    simp
    omega
end Go.Proofs.Ytlmcahgffakoiaa
