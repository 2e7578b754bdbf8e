/- Parts never hold more than what was read. Plain theorems, no condition. -/
import Derived.Test.YtjbgkcljjgofnaaDoorWPlain
namespace Go.Proofs.YtjbgkcljjgofnaaDoor
open Go.RowKit
set_option linter.unusedVariables false

def Fit (ps : List PartD) (r s : List UInt8) : Prop := ps.length + r.length ≤ s.length ∧ ∀ p ∈ ps, p.text.length + r.length ≤ s.length
theorem addP_len (ps : List PartD) (x : List UInt8) (q : Bool) : (addP ps x q).length ≤ ps.length + 1 := by
  rcases List.eq_nil_or_concat ps with rfl | ⟨l, p, rfl⟩
  · simp [addP]
  · rw [List.concat_eq_append, addP_snoc]
    split <;> simp
theorem addP_mem (ps : List PartD) (x : List UInt8) (q : Bool) (p : PartD) (h : p ∈ addP ps x q) : p ∈ ps ∨ p.text = x ∨ ∃ p' ∈ ps, p.text = p'.text ++ x := by
  rcases List.eq_nil_or_concat ps with rfl | ⟨l, p0, rfl⟩
  · simp only [addP, List.mem_singleton] at h
    subst h
    exact .inr (.inl rfl)
  · rw [List.concat_eq_append] at *
    rw [addP_snoc] at h
    split at h
    · rcases List.mem_append.1 h with h | h
      · exact .inl (by simp [h])
      · rw [List.mem_singleton] at h
        subst h
        exact .inr (.inr ⟨p0, by simp, rfl⟩)
    · rcases List.mem_append.1 h with h | h
      · exact .inl (by simp [h])
      · simp only [List.mem_cons, List.not_mem_nil, or_false] at h
        rcases h with rfl | rfl
        · exact .inl (by simp)
        · exact .inr (.inl rfl)
section
variable {ps ps' : List PartD} {r r' s t : List UInt8} {q : Bool}
theorem Fit.add {x : List UInt8} (h : Fit ps r s) (h1 : x.length + r'.length ≤ r.length) (h2 : r'.length < r.length) (hs : r.length ≤ s.length) : Fit (addP ps x q) r' s := by
  refine ⟨?_, fun p hp => ?_⟩
  · have := addP_len ps x q
    have := h.1
    omega
  · rcases addP_mem ps x q p hp with h' | h' | ⟨p', h', e⟩
    · have := h.2 p h'
      omega
    · rw [h']
      omega
    · have := h.2 p' h'
      rw [e, List.length_append]
      omega
theorem Fit.var {c : UInt8} (h : Fit ps (c :: t) s) (hs : (c :: t).length ≤ s.length) : Fit (varP t ps q) (t.drop (varN t)) s := by
  have hn := varN_le t
  unfold varP
  split
  · rename_i h0
    rw [h0]
    refine h.add ?_ (by simp) hs
    simp
    omega
  · refine ⟨?_, fun p hp => ?_⟩
    · have := h.1
      simp at this ⊢
      omega
    · rcases List.mem_append.1 hp with hp | hp
      · have := h.2 p hp
        simp at this ⊢
        omega
      · rw [List.mem_singleton] at hp
        subst hp
        simp at hs ⊢
        omega
theorem Fit.dblS {first : Bool} (h : Fit ps r s) (hs : r.length ≤ s.length) (hd : dblS first r ps = .more ps' r' ∨ (dblS first r ps = .fin ps' r')) : Fit ps' r' s := by
  cases r with
  | nil => simp [Go.Proofs.YtjbgkcljjgofnaaDoor.dblS] at hd
  | cons c t =>
    simp only [Go.Proofs.YtjbgkcljjgofnaaDoor.dblS] at hd
    split at hd
    · rcases hd with hd | hd <;> cases hd
      split
      · exact h.add (by simp) (by simp) hs
      · refine ⟨?_, fun p hp => ?_⟩
        · have := h.1
          simp at this ⊢
          omega
        · have := h.2 p hp
          simp at this ⊢
          omega
    split at hd
    · rcases hd with hd | hd <;> cases hd
      exact h.var hs
    cases t with
    | nil =>
      rcases hd with hd | hd <;> cases hd
      exact h.add (by simp) (by simp) hs
    | cons d t' =>
      dsimp only at hd
      split at hd
      · rcases hd with hd | hd <;> cases hd
        exact h.add (by simp; omega) (by simp; omega) hs
      · rcases hd with hd | hd <;> cases hd
        exact h.add (by simp; omega) (by simp) hs
theorem Fit.dblP : ∀ (k : Nat) (first : Bool) (r r' : List UInt8) (ps ps' : List PartD), Fit ps r s → r.length ≤ s.length → Go.Proofs.YtjbgkcljjgofnaaDoor.dblP k first r ps = some (ps', r') → Fit ps' r' s := by
  intro k
  induction k with
  | zero => intro first r r' ps ps' h hs hd; cases hd
  | succ k ih =>
    intro first r r' ps ps' h hs hd
    simp only [Go.Proofs.YtjbgkcljjgofnaaDoor.dblP] at hd
    split at hd
    · cases hd
    · rename_i hq
      cases hd
      exact h.dblS hs (.inr hq)
    · rename_i hq
      have hl := (dblS_suf (.inl hq)).2
      exact ih _ _ _ _ _ (h.dblS hs (.inl hq)) (by omega) hd
theorem Fit.drop1 {c : UInt8} (h : Fit ps (c :: t) s) : Fit ps t s := by
  refine ⟨?_, fun p hp => ?_⟩
  · have := h.1
    simp at this
    omega
  · have := h.2 p hp
    simp at this
    omega
theorem sglL_le (t : List UInt8) : (sglL t).length ≤ t.length := (List.takeWhile_prefix _).length_le
theorem Fit.wordS (h : Fit ps r s) (hs : r.length ≤ s.length) (hd : Go.Proofs.YtjbgkcljjgofnaaDoor.wordS r ps = .more ps' r') : Fit ps' r' s := by
  cases r with
  | nil => simp [Go.Proofs.YtjbgkcljjgofnaaDoor.wordS] at hd
  | cons c t =>
    simp only [Go.Proofs.YtjbgkcljjgofnaaDoor.wordS] at hd
    split at hd
    · cases hd
    split at hd
    · split at hd
      · cases hd
        exact h.add (by simp; omega) (by simp; omega) hs
      · cases hd
    split at hd
    · split at hd
      · cases hd
      · rename_i hq
        cases hd
        exact Fit.dblP _ _ _ _ _ _ h.drop1 (by simp at hs; omega) hq
    split at hd
    · cases hd
      exact h.var hs
    split at hd
    · split at hd
      · cases hd
      · cases hd
        exact h.add (by simp; omega) (by simp; omega) hs
    · cases hd
      exact h.add (by simp; omega) (by simp) hs
theorem Fit.small (h : Fit ps r s) (hs : s.length ≤ 1000000) : ps.length ≤ 1000000 ∧ ∀ p ∈ ps, p.text.length ≤ 1000000 :=
  ⟨by have := h.1; omega, fun p hp => by have := h.2 p hp; omega⟩
end
theorem varK_of {t : List UInt8} {k : Nat} (h1 : nameOk (t.take k) = true) (hk : k ≤ t.length) (h2 : k = t.length ∨ nameOk (t.take (k + 1)) = false) : k = varK t := by
  cases t with
  | nil => simp at hk; simp [varK, hk]
  | cons c t =>
    have key : ∀ (l : List UInt8) (j : Nat), j ≤ l.length → (l.take j).all nameC = true → (j = l.length ∨ (l.take (j + 1)).all nameC = false) → j = (l.takeWhile nameC).length := by
      intro l
      induction l with
      | nil => intro j hj _ _; simp at hj; simp [hj]
      | cons d l ih =>
        intro j hj ha hb
        cases j with
        | zero =>
          rcases hb with hb | hb
          · simp at hb
          · simp at hb
            simp [hb]
        | succ j =>
          simp only [List.take_succ_cons, List.all_cons, Bool.and_eq_true] at ha
          rw [List.takeWhile_cons, if_pos ha.1, List.length_cons]
          have := ih j (by simpa using hj) ha.2 (by
            rcases hb with hb | hb
            · exact .inl (by simpa using hb)
            · refine .inr ?_
              rw [List.take_succ_cons, List.all_cons, ha.1] at hb
              simpa using hb)
          omega
    cases k with
    | zero =>
      rcases h2 with h2 | h2
      · simp at h2
      · simp [nameOk] at h2
        simp [varK, h2]
    | succ k =>
      simp only [List.take_succ_cons, nameOk, Bool.and_eq_true] at h1
      have := key t k (by simpa using hk) h1.2 (by
        rcases h2 with h2 | h2
        · exact .inl (by simpa using h2)
        · refine .inr ?_
          rw [List.take_succ_cons] at h2
          simp only [nameOk, h1.1, Bool.true_and] at h2
          exact h2)
      simp only [varK, h1.1, if_true]
      omega
end Go.Proofs.YtjbgkcljjgofnaaDoor
