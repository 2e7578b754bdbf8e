/- Words that are printed are read so: the plain law behind WordsBack, first half: what words that were read look like. Plain theorems, no condition. -/
import Derived.Test.YtjbgkcljjgofnaaDoorWPlain
namespace Go.Proofs.YtjbgkcljjgofnaaDoor
open Go.RowKit
set_option linter.unusedVariables false

/-- A byte that is text as it stands, outside of quotes. -/
def rawC (c : UInt8) : Bool := decide (c.toNat ≠ 32 ∧ c.toNat ≠ 38 ∧ c.toNat ≠ 124 ∧ c.toNat ≠ 62 ∧ c.toNat ≠ 59 ∧ c.toNat ≠ 60 ∧ c.toNat ≠ 40 ∧ c.toNat ≠ 41 ∧ c.toNat ≠ 39 ∧ c.toNat ≠ 34 ∧ c.toNat ≠ 92)
/-- No name begins behind a sign $. -/
def noName (r : List UInt8) : Bool := match r with | [] => true | d :: _ => !firstC d && decide (d.toNat ≠ 63)
def rawOk : List UInt8 → Bool
  | [] => true
  | c :: t => rawC c && (decide (c.toNat ≠ 36) || noName t) && rawOk t
def partOk (p : PartD) : Bool :=
  if p.var = true then decide (p.text = [63]) || nameB p.text
  else if p.quoted = true then true
  else !p.text.isEmpty && rawOk p.text
def headNo (r : List UInt8) : Bool := match r with | [] => true | d :: _ => !nameC d
/-- May q stand behind p? -/
def pairOk (p q : PartD) : Bool :=
  !(!p.var && !q.var && (p.quoted == q.quoted)) && (!(p.var && !p.quoted && decide (p.text ≠ [63]) && !q.var && !q.quoted) || headNo q.text)
def chainOk : List PartD → Bool
  | [] => true
  | [p] => partOk p
  | p :: q :: l => partOk p && pairOk p q && chainOk (q :: l)
/-- What may come behind the part p. -/
def joinOk (p : PartD) (r : List UInt8) : Bool :=
  (!(p.var && !p.quoted && decide (p.text ≠ [63])) || headNo r) && (!(!p.var && !p.quoted && decide (p.text.getLast? = some 36)) || noName r)
def lastOk (ps : List PartD) (r : List UInt8) : Bool := match ps.getLast? with | none => true | some p => joinOk p r
/-- A word's first part. -/
def firstOk (ps : List PartD) : Bool := match ps with | [] => true | p :: _ => p.var || p.quoted || decide (p.text.head? ≠ some 35)
def Norm (ps : List PartD) (r : List UInt8) : Prop := chainOk ps = true ∧ lastOk ps r = true ∧ firstOk ps = true

theorem chain_snoc (l : List PartD) (p : PartD) : chainOk (l ++ [p]) = (chainOk l && (match l.getLast? with | none => true | some q => pairOk q p) && partOk p) := by
  induction l with
  | nil => simp [chainOk]
  | cons a l ih =>
    cases l with
    | nil =>
      simp only [List.cons_append, List.nil_append, chainOk, List.getLast?_singleton]
    | cons b l =>
      have e : (a :: b :: l).getLast? = (b :: l).getLast? := by simp [List.getLast?_cons_cons]
      rw [e]
      simp only [List.cons_append, chainOk] at ih ⊢
      rw [ih]
      simp only [Bool.and_assoc]
theorem raw_snoc (t : List UInt8) (c : UInt8) : rawOk (t ++ [c]) = (rawOk t && (!decide (t.getLast? = some 36) || noName [c]) && rawC c) := by
  induction t with
  | nil =>
    simp [rawOk, noName]
  | cons a t ih =>
    cases t with
    | nil =>
      have h36 : ∀ a : UInt8, decide (a.toNat ≠ 36) = !decide (a = 36) := by
        intro a
        by_cases h : a = 36
        · subst h; rfl
        · have : a.toNat ≠ 36 := fun e => h (UInt8.toNat_inj.1 e)
          simp [h, this]
      simp only [List.cons_append, List.nil_append, rawOk, noName, List.getLast?_singleton, Option.some.injEq, Bool.or_true, Bool.and_true]
      rw [h36 a]
    | cons b t =>
      have e : (a :: b :: t).getLast? = (b :: t).getLast? := by simp [List.getLast?_cons_cons]
      rw [e]
      simp only [List.cons_append, rawOk, noName] at ih ⊢
      rw [ih]
      simp only [Bool.and_assoc]
section
variable {ps : List PartD} {r r' : List UInt8}
theorem lastOk_snoc (p : PartD) : lastOk (ps ++ [p]) r = joinOk p r := by simp [lastOk]
theorem first_snoc (p : PartD) (h : firstOk ps = true) (hne : ps ≠ [] ∨ (p.var || p.quoted || decide (p.text.head? ≠ some 35)) = true) : firstOk (ps ++ [p]) = true := by
  cases ps with
  | nil => rcases hne with h | h; exact absurd rfl h; exact h
  | cons a l => exact h
/-- Quoted text is added. -/
theorem Norm.quoted (h : Norm ps r) (x : List UInt8) : Norm (addP ps x true) r' := by
  obtain ⟨h1, h2, h3⟩ := h
  rcases List.eq_nil_or_concat ps with rfl | ⟨l, p, rfl⟩
  · exact ⟨by simp [addP, chainOk, partOk], by simp [addP, lastOk, joinOk], by simp [addP, firstOk]⟩
  · rw [List.concat_eq_append] at *
    rw [addP_snoc]
    split
    · rename_i hp
      rw [chain_snoc] at h1
      simp only [Bool.and_eq_true] at h1
      refine ⟨?_, by rw [lastOk_snoc]; simp [joinOk, hp.1, hp.2], ?_⟩
      · rw [chain_snoc]
        simp only [Bool.and_eq_true]
        refine ⟨⟨h1.1.1, ?_⟩, by simp [partOk, hp.1, hp.2]⟩
        have := h1.1.2
        cases hq : l.getLast? with
        | none => rfl
        | some q =>
          rw [hq] at this
          simp only [pairOk, hp.1, hp.2] at this ⊢
          simpa using this
      · cases l with
        | nil => simp [firstOk, hp.2]
        | cons a l => exact h3
    · rename_i hp
      have e : l ++ [p, (⟨x, false, true⟩ : PartD)] = (l ++ [p]) ++ [⟨x, false, true⟩] := by simp
      rw [e]
      refine ⟨?_, by rw [lastOk_snoc]; simp [joinOk], first_snoc _ h3 (.inl (by simp))⟩
      rw [chain_snoc, h1]
      have : pairOk p ⟨x, false, true⟩ = true := by
        simp only [pairOk]
        cases hv : p.var <;> cases hq : p.quoted <;> simp_all
      simp [this, partOk]
/-- A byte as it stands. -/
theorem Norm.raw {c : UInt8} {t : List UInt8} (h : Norm ps (c :: t)) (hc : rawC c = true) (h36 : c.toNat = 36 → noName t = true) (h35 : ps = [] → c.toNat ≠ 35) : Norm (addP ps [c] false) t := by
  obtain ⟨h1, h2, h3⟩ := h
  have hjoin : ∀ x : List UInt8, joinOk ⟨x ++ [c], false, false⟩ t = true := by
    intro x
    simp only [joinOk, List.getLast?_append, List.getLast?_singleton]
    by_cases hh : c = 36
    · have := h36 (by rw [hh]; rfl)
      simp [this]
    · simp [hh]
  rcases List.eq_nil_or_concat ps with rfl | ⟨l, p, rfl⟩
  · refine ⟨?_, ?_, ?_⟩
    · simp [addP, chainOk, partOk, rawOk, noName, hc]
    · have := hjoin []
      simpa [addP, lastOk] using this
    · simp only [addP, firstOk]
      have : c ≠ 35 := fun e => h35 rfl (by rw [e]; rfl)
      simp [this]
  · rw [List.concat_eq_append] at *
    rw [lastOk_snoc] at h2
    rw [addP_snoc]
    split
    · rename_i hp
      rw [chain_snoc] at h1
      simp only [Bool.and_eq_true] at h1
      refine ⟨?_, ?_, ?_⟩
      · rw [chain_snoc]
        simp only [Bool.and_eq_true]
        refine ⟨⟨h1.1.1, ?_⟩, ?_⟩
        · have h4 := h1.1.2
          have h5 := h1.2
          cases hq : l.getLast? with
          | none => rfl
          | some q =>
            rw [hq] at h4
            simp only [partOk, hp.1, hp.2] at h5
            simp only [pairOk, hp.1, hp.2] at h4 ⊢
            cases ht : p.text with
            | nil => rw [ht] at h5; simp at h5
            | cons d u => rw [ht] at h4; simpa [headNo] using h4
        · have h5 := h1.2
          simp only [partOk, hp.1, hp.2] at h5 ⊢
          simp only [joinOk, hp.1, hp.2] at h2
          simp only [Bool.false_eq_true, if_false, Bool.and_eq_true] at h5 ⊢
          refine ⟨by simp, ?_⟩
          rw [raw_snoc, h5.2, hc]
          have : noName (c :: t) = noName [c] := rfl
          rw [this] at h2
          simpa using h2
      · rw [lastOk_snoc]
        have := hjoin p.text
        rw [hp.1, hp.2]
        exact this
      · cases l with
        | nil =>
          have h5 := h1.2
          simp only [partOk, hp.1, hp.2] at h5
          simp only [List.nil_append, firstOk, hp.1, hp.2] at h3 ⊢
          cases ht : p.text with
          | nil => rw [ht] at h5; simp at h5
          | cons d u => rw [ht] at h3; simpa using h3
        | cons a l => exact h3
    · rename_i hp
      have e : l ++ [p, (⟨[c], false, false⟩ : PartD)] = (l ++ [p]) ++ [⟨[c], false, false⟩] := by simp
      rw [e]
      refine ⟨?_, by rw [lastOk_snoc]; exact hjoin [], first_snoc _ h3 (.inl (by simp))⟩
      rw [chain_snoc, h1]
      have : pairOk p ⟨[c], false, false⟩ = true := by
        simp only [pairOk]
        simp only [joinOk] at h2
        have hh : headNo (c :: t) = headNo [c] := rfl
        rw [hh] at h2
        cases hv : p.var <;> cases hq : p.quoted <;> simp_all
      simp [this, partOk, rawOk, noName, hc]
end
theorem nLen_full (l r : List UInt8) (h : l.all nameC = true) (hr : headNo r = true) : ((l ++ r).takeWhile nameC).length = l.length := by
  induction l with
  | nil =>
    cases r with
    | nil => rfl
    | cons d r =>
      simp only [headNo] at hr
      have : nameC d = false := by simpa using hr
      simp [this]
  | cons a l ih =>
    simp only [List.all_cons, Bool.and_eq_true] at h
    rw [List.cons_append, List.takeWhile_cons, if_pos h.1, List.length_cons, List.length_cons, ih h.2]
/-- What a sign $ reads. -/
theorem varN_text (r : List UInt8) (h : varN r ≠ 0) : (r.take (varN r) = [63] ∨ nameB (r.take (varN r)) = true) ∧ (r.take (varN r) ≠ [63] → headNo (r.drop (varN r)) = true) := by
  cases r with
  | nil => simp [varN, varK] at h
  | cons c t =>
    by_cases hc : c = 63
    · subst hc
      have : varN (63 :: t) = 1 := rfl
      rw [this]
      simp
    · have e : varN (c :: t) = varK (c :: t) := by simp [varN, hc]
      rw [e] at h ⊢
      simp only [varK] at h ⊢
      split at h
      · rename_i hf
        rw [if_pos hf]
        rw [Nat.add_comm 1, List.take_succ_cons, List.drop_succ_cons]
        have htw : t.take (t.takeWhile nameC).length = t.takeWhile nameC := (List.prefix_iff_eq_take.1 (List.takeWhile_prefix _)).symm
        refine ⟨.inr ?_, fun _ => ?_⟩
        · rw [htw]
          simp only [nameB, nameOk, hf, Bool.true_and, List.isEmpty_cons, Bool.not_false, Bool.and_true]
          exact List.all_takeWhile
        · have key : ∀ l : List UInt8, headNo (l.drop (l.takeWhile nameC).length) = true := by
            intro l
            induction l with
            | nil => rfl
            | cons a l ih =>
              rw [List.takeWhile_cons]
              split
              · rw [List.length_cons, List.drop_succ_cons]; exact ih
              · rename_i ha
                simp [headNo]
                simpa using ha
          exact key t
      · exact absurd rfl h
theorem varN_zero (r : List UInt8) (h : varN r = 0) : noName r = true := by
  cases r with
  | nil => rfl
  | cons c t =>
    simp only [varN, List.head?_cons, Option.some.injEq] at h
    split at h
    · cases h
    · rename_i hc
      simp only [varK] at h
      split at h
      · omega
      · rename_i hf
        have : c.toNat ≠ 63 := fun e => hc (UInt8.toNat_inj.1 e)
        simp [noName, this]
        simpa using hf
section
variable {ps : List PartD} {r : List UInt8}
theorem Norm.var {c : UInt8} {t : List UInt8} (h : Norm ps (c :: t)) (hc : c.toNat = 36) (q : Bool) : Norm (varP t ps q) (t.drop (varN t)) := by
  unfold varP
  split
  · rename_i h0
    rw [h0, List.drop_zero]
    have hc' : c = 36 := UInt8.toNat_inj.1 hc
    cases q
    · rw [← hc']
      exact h.raw (by rw [hc']; decide) (fun _ => varN_zero t h0) (fun _ => by omega)
    · exact h.quoted [36]
  · rename_i h0
    obtain ⟨h1, h2, h3⟩ := h
    obtain ⟨k1, k2⟩ := varN_text t h0
    refine ⟨?_, ?_, first_snoc _ h3 (.inr (by simp))⟩
    · rw [chain_snoc, h1]
      have h4 : (match ps.getLast? with | none => true | some p => pairOk p ⟨t.take (varN t), true, q⟩) = true := by
        cases hq : ps.getLast? with
        | none => rfl
        | some p => simp [pairOk]
      rw [h4]
      simp only [partOk, Bool.true_and, if_true]
      rcases k1 with k1 | k1
      · simp [k1]
      · simp [k1]
    · rw [lastOk_snoc]
      simp only [joinOk]
      by_cases hk : t.take (varN t) = [63]
      · simp [hk]
      · simp [k2 hk]
end
end Go.Proofs.YtjbgkcljjgofnaaDoor
