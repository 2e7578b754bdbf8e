/- What parts lack, in plain words. Plain theorems. -/
import Derived.Test.YtljlniehbenefaaDoorBdHas
namespace Go.Proofs.YtljlniehbenefaaDoor
open Go.RowKit
set_option linter.unusedVariables false

def strsV (l : List Bs) : List Value := l.map fun x => .string (str x)
theorem strsV_len (l : List Bs) : (strsV l).length = l.length := by simp [strsV]
theorem strsV_snoc (l : List Bs) (s : Bs) : strsV (l ++ [s]) = strsV l ++ [.string (str s)] := by simp [strsV]
def nmsRun : List Bs → (Bs → Bool) → (Bs → Bool)
  | [], f => f
  | s :: l, f => nmsRun l (updS f s true)
theorem nmsRun_mem : ∀ (l : List Bs) (f : Bs → Bool) (s : Bs), s ∈ l ∨ f s = true → nmsRun l f s = true := by
  intro l
  induction l with
  | nil => intro f s h; rcases h with h | h; (· cases h); exact h
  | cons a l ih =>
    intro f s h
    refine ih _ s ?_
    by_cases e : s = a
    · subst e; exact .inr (updS_same _ _ _)
    · rcases h with h | h
      · rcases List.mem_cons.1 h with h | h
        · exact absurd h e
        · exact .inl h
      · exact .inr (by rw [updS_other _ _ _ _ e]; exact h)
def lkRun : List Bs → (Bs → Bool) → List Bs → List Bs
  | [], _, out => out
  | s :: l, f, out => if f s = true then lkRun l f out else lkRun l (updS f s true) (out ++ [s])
theorem lkRun_has {s : Bs} {l : List Bs} {f : Bs → Bool} {out : List Bs} (h : f s = true) : lkRun (s :: l) f out = lkRun l f out := by rw [lkRun, if_pos h]
theorem lkRun_new {s : Bs} {l : List Bs} {f : Bs → Bool} {out : List Bs} (h : f s = false) : lkRun (s :: l) f out = lkRun l (updS f s true) (out ++ [s]) := by rw [lkRun, if_neg (by rw [h]; exact Bool.false_ne_true)]
theorem lkRun_mem : ∀ (l : List Bs) (f : Bs → Bool) (out : List Bs) (s : Bs), s ∈ lkRun l f out → s ∈ out ∨ (s ∈ l ∧ f s = false) := by
  intro l
  induction l with
  | nil => intro f out s h; exact .inl h
  | cons a l ih =>
    intro f out s h
    cases hf : f a with
    | true =>
      rw [lkRun_has hf] at h
      rcases ih _ _ _ h with h | ⟨h, h'⟩
      · exact .inl h
      · exact .inr ⟨List.mem_cons_of_mem _ h, h'⟩
    | false =>
      rw [lkRun_new hf] at h
      rcases ih _ _ _ h with h | ⟨h, h'⟩
      · rcases List.mem_append.1 h with h | h
        · exact .inl h
        · rw [List.mem_singleton] at h
          subst h
          exact .inr ⟨List.mem_cons_self, hf⟩
      · by_cases e : s = a
        · subst e; exact .inr ⟨List.mem_cons_self, hf⟩
        · rw [updS_other _ _ _ _ e] at h'
          exact .inr ⟨List.mem_cons_of_mem _ h, h'⟩
theorem lkRun_len : ∀ (l : List Bs) (f : Bs → Bool) (out : List Bs), (lkRun l f out).length ≤ out.length + l.length := by
  intro l
  induction l with
  | nil => intro f out; exact Nat.le_refl _
  | cons a l ih =>
    intro f out
    cases hf : f a with
    | true => rw [lkRun_has hf]; have := ih f out; rw [List.length_cons]; omega
    | false => rw [lkRun_new hf]; have := ih (updS f a true) (out ++ [a]); rw [List.length_append, List.length_singleton] at this; rw [List.length_cons]; omega
def nmsOf (ps : List ObX) : List Bs := ps.flatMap fun p => p.1.names.map NmD.name
def ndsOf (ps : List ObX) : List Bs := ps.flatMap fun p => p.1.needs.map NeD.name
def lacksP (ps : List ObX) : List Bs := lkRun (ndsOf ps) (nmsRun (nmsOf ps) fun _ => false) []
theorem nmsOf_drop (ps : List ObX) (i : Nat) (h : i < ps.length) : nmsOf (ps.drop i) = ps[i].1.names.map NmD.name ++ nmsOf (ps.drop (i + 1)) := by
  unfold nmsOf; rw [List.drop_eq_getElem_cons h, List.flatMap_cons]
theorem ndsOf_drop (ps : List ObX) (i : Nat) (h : i < ps.length) : ndsOf (ps.drop i) = ps[i].1.needs.map NeD.name ++ ndsOf (ps.drop (i + 1)) := by
  unfold ndsOf; rw [List.drop_eq_getElem_cons h, List.flatMap_cons]
theorem lacksP_fst {ps qs : List ObX} (h : ps.map Prod.fst = qs.map Prod.fst) : lacksP ps = lacksP qs := by
  have e : ∀ l : List ObX, (l.flatMap fun p => p.1.names.map NmD.name) = (l.map Prod.fst).flatMap fun o => o.names.map NmD.name := fun l => by rw [List.flatMap_map]
  have e' : ∀ l : List ObX, (l.flatMap fun p => p.1.needs.map NeD.name) = (l.map Prod.fst).flatMap fun o => o.needs.map NeD.name := fun l => by rw [List.flatMap_map]
  unfold lacksP nmsOf ndsOf
  rw [e, e', e qs, e' qs, h]
theorem lacksP_not {ps : List ObX} {s : Bs} (h : s ∈ lacksP ps) : ∀ p ∈ ps, hasP p.1 s = false := by
  intro p hp
  rcases lkRun_mem _ _ _ _ h with h | ⟨-, h⟩
  · cases h
  · unfold hasP
    rw [List.any_eq_false]
    intro n hn he
    have : nmsRun (nmsOf ps) (fun _ => false) s = true := nmsRun_mem _ _ _ (.inl (List.mem_flatMap.2 ⟨p, hp, List.mem_map.2 ⟨n, hn, by simpa using he⟩⟩))
    rw [h] at this
    cases this
theorem lacksP_need {ps : List ObX} {s : Bs} (h : s ∈ lacksP ps) : ∃ p ∈ ps, ∃ n ∈ p.1.needs, n.name = s := by
  rcases lkRun_mem _ _ _ _ h with h | ⟨h, -⟩
  · cases h
  · obtain ⟨p, hp, h⟩ := List.mem_flatMap.1 h
    obtain ⟨n, hn, e⟩ := List.mem_map.1 h
    exact ⟨p, hp, n, hn, e⟩
end Go.Proofs.YtljlniehbenefaaDoor
