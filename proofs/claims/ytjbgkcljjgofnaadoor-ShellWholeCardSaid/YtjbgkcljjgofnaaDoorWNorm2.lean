/- Words that are printed are read so: what words that were read look like, carried through a whole line. Plain theorems, no condition. -/
import Derived.Test.YtjbgkcljjgofnaaDoorWNorm
namespace Go.Proofs.YtjbgkcljjgofnaaDoor
open Go.RowKit
set_option linter.unusedVariables false

section
variable {ps ps' : List PartD} {r r' t : List UInt8} {c : UInt8}
theorem Norm.other (h : Norm ps r) (d : UInt8) (t : List UInt8) (hd : nameC d = false) (h63 : d.toNat ≠ 63) : Norm ps (d :: t) := by
  refine ⟨h.1, ?_, h.2.2⟩
  unfold lastOk
  split
  · rfl
  · have hf : firstC d = false := by
      unfold nameC at hd
      simp only [Bool.or_eq_false_iff] at hd
      exact hd.1
    simp [joinOk, headNo, noName, hd, hf, h63]
theorem addP_ne (ps : List PartD) (x : List UInt8) (q : Bool) : addP ps x q ≠ [] := by
  rcases List.eq_nil_or_concat ps with rfl | ⟨l, p, rfl⟩
  · simp [addP]
  · rw [List.concat_eq_append, addP_snoc]
    split <;> simp
theorem varP_ne (t : List UInt8) (ps : List PartD) (q : Bool) : varP t ps q ≠ [] := by
  unfold varP
  split
  · exact addP_ne _ _ _
  · simp
theorem nameC_36 : nameC 36 = false := by decide
theorem Norm.varQ (h : Norm ps r) (r0 : List UInt8) : Norm (varP t ps true) r0 := by
  have h' := h.other 36 t nameC_36 (by decide)
  have hv := h'.var (q := true) rfl
  refine ⟨hv.1, ?_, hv.2.2⟩
  unfold varP
  split
  · exact (h.quoted (r' := r0) [36]).2.1
  · rw [lastOk_snoc]
    simp [joinOk]
theorem Norm.dbl : ∀ (k : Nat) (first : Bool) (r : List UInt8) (ps ps' : List PartD) (r' : List UInt8), (∃ r0, Norm ps r0) → (first = false → (∀ r0, Norm ps r0) ∧ ps ≠ []) → dblP k first r ps = some (ps', r') → (∀ r0, Norm ps' r0) ∧ ps' ≠ [] := by
  intro k
  induction k with
  | zero => intro first r ps ps' r' _ _ h; cases h
  | succ k ih =>
    intro first r ps ps' r' h1 h2 h
    obtain ⟨r1, h1⟩ := h1
    have go : ∀ (x : List UInt8), (∀ r0, Norm (addP ps x true) r0) ∧ addP ps x true ≠ [] := fun x => ⟨fun r0 => h1.quoted x, addP_ne _ _ _⟩
    simp only [dblP] at h
    split at h
    · cases h
    · rename_i hs
      cases h
      cases r with
      | nil => simp [dblS] at hs
      | cons c t =>
        simp only [dblS] at hs
        split at hs
        · cases hs
          cases first
          · exact h2 rfl
          · exact go []
        split at hs
        · cases hs
        cases t with
        | nil => cases hs
        | cons d t' =>
          dsimp only at hs
          split at hs <;> cases hs
    · rename_i ps1 rr hs
      cases r with
      | nil => simp [dblS] at hs
      | cons c t =>
        have fin : ((∀ r0, Norm ps1 r0) ∧ ps1 ≠ []) → (∀ r0, Norm ps' r0) ∧ ps' ≠ [] := fun q => ih _ _ _ _ _ ⟨[], q.1 []⟩ (fun _ => q) h
        simp only [dblS] at hs
        split at hs
        · cases hs
        split at hs
        · cases hs
          exact fin ⟨fun r0 => h1.varQ r0, varP_ne _ _ _⟩
        cases t with
        | nil =>
          cases hs
          exact fin (go _)
        | cons d t' =>
          dsimp only at hs
          split at hs
          · cases hs
            exact fin (go _)
          · cases hs
            exact fin (go _)
theorem opF_none : ∀ (os : List (List UInt8)) (s : List UInt8), (∀ o ∈ os, o ≠ []) → opF os s = [] → ∀ o ∈ os, o.isPrefixOf s = false := by
  intro os
  induction os with
  | nil => intro s _ _ o ho; cases ho
  | cons a os ih =>
    intro s hne h o ho
    simp only [opF] at h
    split at h
    · exact absurd h (hne a (by simp))
    · rename_i ha
      rcases List.mem_cons.1 ho with rfl | ho
      · exact Bool.eq_false_iff.2 ha
      · exact ih s (fun o' h' => hne o' (by simp [h'])) h o ho
theorem op_first {c : UInt8} {t : List UInt8} (h : opL (c :: t) = []) : c.toNat ≠ 38 ∧ c.toNat ≠ 124 ∧ c.toNat ≠ 62 ∧ c.toNat ≠ 59 ∧ c.toNat ≠ 60 ∧ c.toNat ≠ 40 ∧ c.toNat ≠ 41 := by
  have key := opF_none opsL (c :: t) (by decide) h
  have one : ∀ d : UInt8, [d] ∈ opsL → c.toNat ≠ d.toNat := by
    intro d hd e
    have := key [d] hd
    have e' : c = d := UInt8.toNat_inj.1 e
    subst e'
    simp at this
  exact ⟨one 38 (by decide), one 124 (by decide), one 62 (by decide), one 59 (by decide), one 60 (by decide), one 40 (by decide), one 41 (by decide)⟩
theorem Norm.word (h : Norm ps r) (hw : wordS r ps = .more ps' r') (h35 : ps = [] → r.head? ≠ some 35) : Norm ps' r' ∧ ps' ≠ [] := by
  cases r with
  | nil => simp [wordS] at hw
  | cons c t =>
    simp only [wordS] at hw
    split at hw
    · cases hw
    rename_i hno
    split at hw
    · split at hw
      · cases hw
        exact ⟨h.quoted _, addP_ne _ _ _⟩
      · cases hw
    rename_i h39
    split at hw
    · split at hw
      · cases hw
      · rename_i hd
        cases hw
        have hn : Norm ps (c :: t) := h
        -- the first step within the quotes decides
        have := Norm.dbl _ _ _ _ _ _ ⟨_, h⟩ (fun e => by cases e) hd
        exact ⟨this.1 _, this.2⟩
    rename_i h34
    split at hw
    · rename_i h36
      cases hw
      exact ⟨h.var h36 false, varP_ne _ _ _⟩
    rename_i h36
    split at hw
    · split at hw
      · cases hw
      · cases hw
        exact ⟨h.quoted _, addP_ne _ _ _⟩
    · rename_i h92
      cases hw
      have h32 : c.toNat ≠ 32 := fun e => hno (.inl e)
      obtain ⟨o1, o2, o3, o4, o5, o6, o7⟩ := op_first (Classical.not_not.1 (fun e => hno (.inr e)))
      refine ⟨h.raw (decide_eq_true ⟨h32, o1, o2, o3, o4, o5, o6, o7, h39, h34, h92⟩) (fun e => absurd e h36) (fun e e2 => ?_), addP_ne _ _ _⟩
      have e3 : c = 35 := UInt8.toNat_inj.1 e2
      exact h35 e (by rw [e3]; rfl)
theorem Norm.wordP : ∀ (k : Nat) (r r' : List UInt8) (ps ps' : List PartD), Norm ps r → ps ≠ [] → Go.Proofs.YtjbgkcljjgofnaaDoor.wordP k r ps = .ok ps' r' → Norm ps' r' ∧ ps' ≠ [] := by
  intro k
  induction k with
  | zero => intro r r' ps ps' h hne hw; cases hw; exact ⟨h, hne⟩
  | succ k ih =>
    intro r r' ps ps' h hne hw
    simp only [Go.Proofs.YtjbgkcljjgofnaaDoor.wordP] at hw
    split at hw
    · cases hw; exact ⟨h, hne⟩
    · cases hw
    · rename_i hs
      have := h.word hs (fun e => absurd e hne)
      exact ih _ _ _ _ this.1 this.2 hw
end
/-- All texts are made of what was read. -/
def PrnParts (ps : List PartD) : Prop := ∀ p ∈ ps, ∀ c ∈ p.text, 32 ≤ c.toNat ∧ c.toNat ≤ 126
def Prn (s : List UInt8) : Prop := ∀ c ∈ s, 32 ≤ c.toNat ∧ c.toNat ≤ 126
section
variable {ps ps' : List PartD} {r r' : List UInt8}
theorem Prn.suf (h : Prn r) (hs : r' <:+ r) : Prn r' := fun c hc => h c (hs.subset hc)
theorem Prn.take (h : Prn r) (k : Nat) : Prn (r.take k) := fun c hc => h c (List.mem_of_mem_take hc)
theorem Prn.tail {c : UInt8} {t : List UInt8} (h : Prn (c :: t)) : Prn t := fun d hd => h d (List.mem_cons_of_mem _ hd)
theorem Prn.one {c : UInt8} {t : List UInt8} (h : Prn (c :: t)) : Prn [c] := fun d hd => h d (by rw [List.mem_singleton] at hd; subst hd; simp)
theorem PrnParts.add (h : PrnParts ps) {x : List UInt8} (hx : Prn x) (q : Bool) : PrnParts (addP ps x q) := by
  rcases List.eq_nil_or_concat ps with rfl | ⟨l, p, rfl⟩
  · intro p hp
    simp only [addP, List.mem_singleton] at hp
    subst hp
    exact hx
  · rw [List.concat_eq_append] at *
    rw [addP_snoc]
    split
    · intro a ha
      rcases List.mem_append.1 ha with ha | ha
      · exact h a (by simp [ha])
      · rw [List.mem_singleton] at ha
        subst ha
        intro c hc
        rcases List.mem_append.1 hc with hc | hc
        · exact h p (by simp) c hc
        · exact hx c hc
    · intro a ha
      rcases List.mem_append.1 ha with ha | ha
      · exact h a (by simp [ha])
      · simp only [List.mem_cons, List.not_mem_nil, or_false] at ha
        rcases ha with rfl | rfl
        · exact h a (by simp)
        · exact hx
theorem prn_36 : Prn [36] := by intro c hc; simp at hc; subst hc; decide
theorem PrnParts.var (h : PrnParts ps) (hr : Prn r) (q : Bool) : PrnParts (varP r ps q) := by
  unfold varP
  split
  · exact h.add prn_36 q
  · intro a ha
    rcases List.mem_append.1 ha with ha | ha
    · exact h a ha
    · rw [List.mem_singleton] at ha
      subst ha
      exact hr.take _
theorem PrnParts.dbl : ∀ (k : Nat) (first : Bool) (r : List UInt8) (ps ps' : List PartD) (r' : List UInt8), PrnParts ps → Prn r → dblP k first r ps = some (ps', r') → PrnParts ps' := by
  intro k
  induction k with
  | zero => intro first r ps ps' r' _ _ h; cases h
  | succ k ih =>
    intro first r ps ps' r' h hr hd
    simp only [dblP] at hd
    cases r with
    | nil => simp [dblS] at hd
    | cons c t =>
      split at hd
      · cases hd
      · rename_i hs
        cases hd
        simp only [dblS] at hs
        split at hs
        · cases hs
          split
          · exact h.add (fun c hc => by cases hc) true
          · exact h
        split at hs
        · cases hs
        cases t with
        | nil => cases hs
        | cons d t' =>
          dsimp only at hs
          split at hs <;> cases hs
      · rename_i ps1 rr hs
        have hsf := dblS_suf (.inl hs)
        refine ih _ _ _ _ _ ?_ (hr.suf hsf.1) hd
        simp only [dblS] at hs
        split at hs
        · cases hs
        split at hs
        · cases hs
          exact h.var hr.tail true
        cases t with
        | nil =>
          cases hs
          exact h.add hr.one true
        | cons d t' =>
          dsimp only at hs
          split at hs
          · cases hs
            exact h.add hr.tail.one true
          · cases hs
            exact h.add hr.one true
theorem PrnParts.word (h : PrnParts ps) (hr : Prn r) (hw : wordS r ps = .more ps' r') : PrnParts ps' := by
  cases r with
  | nil => simp [wordS] at hw
  | cons c t =>
    simp only [wordS] at hw
    split at hw
    · cases hw
    split at hw
    · split at hw
      · cases hw
        exact h.add (fun d hd => hr.tail d ((List.takeWhile_prefix _).subset hd)) true
      · cases hw
    split at hw
    · split at hw
      · cases hw
      · rename_i hd
        cases hw
        exact PrnParts.dbl _ _ _ _ _ _ h hr.tail hd
    split at hw
    · cases hw
      exact h.var hr.tail false
    split at hw
    · split at hw
      · cases hw
      · cases hw
        exact h.add hr.tail.one true
    · cases hw
      exact h.add hr.one false
theorem PrnParts.wordP : ∀ (k : Nat) (r r' : List UInt8) (ps ps' : List PartD), PrnParts ps → Prn r → Go.Proofs.YtjbgkcljjgofnaaDoor.wordP k r ps = .ok ps' r' → PrnParts ps' := by
  intro k
  induction k with
  | zero => intro r r' ps ps' h _ hw; cases hw; exact h
  | succ k ih =>
    intro r r' ps ps' h hr hw
    simp only [Go.Proofs.YtjbgkcljjgofnaaDoor.wordP] at hw
    split at hw
    · cases hw; exact h
    · cases hw
    · rename_i hs
      exact ih _ _ _ _ (h.word hr hs) (hr.suf (wordS_suf hs).1) hw
end
/-- What a token that was read looks like. -/
def TokOk (t : TokD) : Prop := (t.op ∈ opsL ∧ t.parts = []) ∨ (t.op = [] ∧ t.parts ≠ [] ∧ chainOk t.parts = true ∧ firstOk t.parts = true ∧ PrnParts t.parts)
theorem opF_mem : ∀ (os : List (List UInt8)) (s : List UInt8), opF os s ≠ [] → opF os s ∈ os := by
  intro os
  induction os with
  | nil => intro s h; exact absurd rfl h
  | cons a os ih =>
    intro s h
    simp only [opF] at h ⊢
    split
    · simp
    · rename_i ha
      rw [if_neg ha] at h
      exact List.mem_cons_of_mem _ (ih s h)
theorem norm_nil (r : List UInt8) : Norm [] r := ⟨rfl, rfl, rfl⟩
theorem split_toks (n : Nat) : ∀ (F : Nat) (r : List UInt8) (ts us : List TokD), Prn r → (∀ t ∈ ts, TokOk t) → splitP F n r ts = .ok us → ∀ t ∈ us, TokOk t := by
  intro F
  induction F with
  | zero => intro r ts us _ ho h; cases h; exact ho
  | succ F ih =>
    intro r ts us hr ho h
    simp only [splitP] at h
    split at h
    · cases h; exact ho
    · cases h
    · rename_i ts' r' hs
      refine ih r' ts' us (hr.suf (splitS_suf hs).1) ?_ h
      cases r with
      | nil => simp [splitS] at hs
      | cons c t =>
        simp only [splitS] at hs
        split at hs
        · cases hs; exact ho
        split at hs
        · cases hs
        rename_i h32 h35
        split at hs
        · rename_i hop
          cases hs
          intro x hx
          rcases List.mem_append.1 hx with hx | hx
          · exact ho x hx
          · rw [List.mem_singleton] at hx
            subst hx
            exact .inl ⟨opF_mem _ _ hop, rfl⟩
        rename_i hop
        split at hs
        · cases hs
        · rename_i ps r2 hw
          cases hs
          intro x hx
          rcases List.mem_append.1 hx with hx | hx
          · exact ho x hx
          · rw [List.mem_singleton] at hx
            subst hx
            have hp := PrnParts.wordP _ _ _ _ _ (fun p hp => by cases hp) hr hw
            have hw' := hw
            simp only [wordP] at hw'
            split at hw'
            · rename_i hs2
              exfalso
              have := wordP_lt hw h32 (Classical.not_not.1 hop)
              cases hw'
              omega
            · cases hw'
            · rename_i hs2
              have h1 := (norm_nil (c :: t)).word hs2 (fun _ e => by
                simp only [List.head?_cons, Option.some.injEq] at e
                exact h35 (by rw [e]; rfl))
              have h2 := Norm.wordP _ _ _ _ _ h1.1 h1.2 hw'
              exact .inr ⟨rfl, h2.2, h2.1.1, h2.1.2.2, hp⟩
theorem splitD_toks {s : List UInt8} {us : List TokD} (hs : Prn s) (h : splitD s = .ok us) : ∀ t ∈ us, TokOk t := split_toks _ _ _ _ _ hs (fun t ht => by cases ht) h
end Go.Proofs.YtjbgkcljjgofnaaDoor
