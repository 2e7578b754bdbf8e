/- What words.Name and words.Split compute, in plain words. Plain theorems, no condition. -/
import Derived.Test.YtjbgkcljjgofnaaDoorStr
namespace Go.Proofs.YtjbgkcljjgofnaaDoor
open Go.RowKit
set_option linter.unusedVariables false

structure PartD where
  text : List UInt8
  var : Bool
  quoted : Bool
structure TokD where
  op : List UInt8
  parts : List PartD
  at_ : Nat
def firstC (c : UInt8) : Bool := decide (c.toNat = 95 ∨ (97 ≤ c.toNat ∧ c.toNat ≤ 122) ∨ (65 ≤ c.toNat ∧ c.toNat ≤ 90))
def nameC (c : UInt8) : Bool := firstC c || decide (48 ≤ c.toNat ∧ c.toNat ≤ 57)
def nameOk : List UInt8 → Bool
  | [] => true
  | c :: t => firstC c && t.all nameC
/-- Is it the name of a variable? -/
def nameB (l : List UInt8) : Bool := nameOk l && !l.isEmpty
def addP : List PartD → List UInt8 → Bool → List PartD
  | [], s, q => [⟨s, false, q⟩]
  | [p], s, q => if p.var = false ∧ p.quoted = q then [{ p with text := p.text ++ s }] else [p, ⟨s, false, q⟩]
  | p :: p' :: l, s, q => p :: addP (p' :: l) s q
def varK : List UInt8 → Nat
  | [] => 0
  | c :: t => if firstC c = true then 1 + (t.takeWhile nameC).length else 0
/-- How many bytes the name behind a sign $ has. -/
def varN (r : List UInt8) : Nat := if r.head? = some 63 then 1 else varK r
def varP (r : List UInt8) (ps : List PartD) (q : Bool) : List PartD := if varN r = 0 then addP ps [36] q else ps ++ [⟨r.take (varN r), true, q⟩]
def escB (c : UInt8) : Bool := decide (c.toNat = 34 ∨ c.toNat = 92 ∨ c.toNat = 36)
inductive DStep
  | fin (ps : List PartD) (r : List UInt8)
  | more (ps : List PartD) (r : List UInt8)
  | bad
/-- One step within double quotes. -/
def dblS (first : Bool) (r : List UInt8) (ps : List PartD) : DStep :=
  match r with
  | [] => .bad
  | c :: t =>
    if c.toNat = 34 then .fin (if first = true then addP ps [] true else ps) t
    else if c.toNat = 36 then .more (varP t ps true) (t.drop (varN t))
    else match t with
      | [] => .more (addP ps [c] true) t
      | d :: t' => if c.toNat = 92 ∧ escB d = true then .more (addP ps [d] true) t' else .more (addP ps [c] true) t
def dblP : Nat → Bool → List UInt8 → List PartD → Option (List PartD × List UInt8)
  | 0, _, _, _ => none
  | k + 1, first, r, ps =>
    match dblS first r ps with
    | .bad => none
    | .fin ps r => some (ps, r)
    | .more ps r => dblP k false r ps
def opsL : List (List UInt8) := [[38, 38], [124, 124], [62, 62], [124], [38], [59], [60], [62], [40], [41]]
def opF : List (List UInt8) → List UInt8 → List UInt8
  | [], _ => []
  | o :: l, s => if o.isPrefixOf s = true then o else opF l s
/-- The sign that stands here. -/
def opL (s : List UInt8) : List UInt8 := opF opsL s
def sglL (t : List UInt8) : List UInt8 := t.takeWhile (fun c => decide (c.toNat ≠ 39))
inductive WStep
  | fin
  | more (ps : List PartD) (r : List UInt8)
  | bad
/-- One step of a word. -/
def wordS (r : List UInt8) (ps : List PartD) : WStep :=
  match r with
  | [] => .fin
  | c :: t =>
    if c.toNat = 32 ∨ opL (c :: t) ≠ [] then .fin
    else if c.toNat = 39 then (if (sglL t).length < t.length then .more (addP ps (sglL t) true) (t.drop ((sglL t).length + 1)) else .bad)
    else if c.toNat = 34 then (match dblP (t.length + 1) true t ps with | none => .bad | some (ps, r) => .more ps r)
    else if c.toNat = 36 then .more (varP t ps false) (t.drop (varN t))
    else if c.toNat = 92 then (match t with | [] => .bad | d :: t' => .more (addP ps [d] true) t')
    else .more (addP ps [c] false) t
inductive WRes
  | ok (ps : List PartD) (r : List UInt8)
  | bad (k : Nat)
def wordP : Nat → List UInt8 → List PartD → WRes
  | 0, r, ps => .ok ps r
  | k + 1, r, ps =>
    match wordS r ps with
    | .fin => .ok ps r
    | .bad => .bad r.length
    | .more ps r => wordP k r ps
inductive SStep
  | fin
  | more (ts : List TokD) (r : List UInt8)
  | bad (k : Nat)
/-- One step of a line of n bytes: r of them are still to be read. -/
def splitS (n : Nat) (r : List UInt8) (ts : List TokD) : SStep :=
  match r with
  | [] => .fin
  | c :: t =>
    if c.toNat = 32 then .more ts t
    else if c.toNat = 35 then .fin
    else if opL (c :: t) ≠ [] then .more (ts ++ [⟨opL (c :: t), [], n - (c :: t).length⟩]) ((c :: t).drop (opL (c :: t)).length)
    else match wordP ((c :: t).length + 1) (c :: t) [] with
      | .bad k => .bad k
      | .ok ps r => .more (ts ++ [⟨[], ps, n - (c :: t).length⟩]) r
inductive SRes
  | ok (ts : List TokD)
  | bad (at_ : Nat)
def splitP : Nat → Nat → List UInt8 → List TokD → SRes
  | 0, _, _, ts => .ok ts
  | k + 1, n, r, ts =>
    match splitS n r ts with
    | .fin => .ok ts
    | .bad j => .bad (n - j)
    | .more ts r => splitP k n r ts
def splitD (s : List UInt8) : SRes := splitP (s.length + 1) s.length s []

theorem addP_snoc (ps : List PartD) (p : PartD) (s : List UInt8) (q : Bool) : addP (ps ++ [p]) s q = if p.var = false ∧ p.quoted = q then ps ++ [{ p with text := p.text ++ s }] else ps ++ [p, ⟨s, false, q⟩] := by
  induction ps with
  | nil => rfl
  | cons a ps ih =>
    cases ps with
    | nil =>
      show a :: addP [p] s q = _
      simp only [addP]
      split <;> rfl
    | cons b ps =>
      show a :: addP (b :: ps ++ [p]) s q = _
      rw [ih]
      split <;> rfl
theorem varK_le (r : List UInt8) : varK r ≤ r.length := by
  cases r with
  | nil => simp [varK]
  | cons c t =>
    have := (List.takeWhile_prefix (l := t) nameC).length_le
    simp only [varK, List.length_cons]
    split <;> omega
theorem varN_le (r : List UInt8) : varN r ≤ r.length := by
  unfold varN
  split
  · rename_i h
    cases r with
    | nil => cases h
    | cons c t => simp
  · exact varK_le r
theorem suf_drop (r : List UInt8) (k : Nat) : r.drop k <:+ r := List.drop_suffix k r
theorem dblS_suf {first : Bool} {r r' : List UInt8} {ps ps' : List PartD} (h : dblS first r ps = .more ps' r' ∨ dblS first r ps = .fin ps' r') : r' <:+ r ∧ r'.length < r.length := by
  cases r with
  | nil => simp [dblS] at h
  | cons c t =>
    have key : ∀ k, t.drop k <:+ c :: t ∧ (t.drop k).length < (c :: t).length := fun k => ⟨(suf_drop t k).trans (List.suffix_cons c t), by simp; omega⟩
    simp only [dblS] at h
    split at h
    · have h0 := key 0
      rcases h with h | h <;> cases h
      exact h0
    split at h
    · rcases h with h | h <;> cases h
      exact key _
    cases t with
    | nil =>
      rcases h with h | h <;> cases h
      exact key 0
    | cons d t' =>
      dsimp only at h
      split at h
      · rcases h with h | h <;> cases h
        exact key 1
      · rcases h with h | h <;> cases h
        exact key 0
theorem dblP_suf : ∀ (k : Nat) (first : Bool) (r r' : List UInt8) (ps ps' : List PartD), dblP k first r ps = some (ps', r') → r' <:+ r ∧ r'.length < r.length := by
  intro k
  induction k with
  | zero => intro first r r' ps ps' h; cases h
  | succ k ih =>
    intro first r r' ps ps' h
    simp only [dblP] at h
    split at h
    · cases h
    · rename_i hs
      cases h
      exact dblS_suf (.inr hs)
    · rename_i hs
      have h1 := ih _ _ _ _ _ h
      have h2 := dblS_suf (.inl hs)
      exact ⟨h1.1.trans h2.1, by omega⟩
theorem wordS_suf {r r' : List UInt8} {ps ps' : List PartD} (h : wordS r ps = .more ps' r') : r' <:+ r ∧ r'.length < r.length := by
  cases r with
  | nil => simp [wordS] at h
  | cons c t =>
    have key : ∀ k, t.drop k <:+ c :: t ∧ (t.drop k).length < (c :: t).length := fun k => ⟨(suf_drop t k).trans (List.suffix_cons c t), by simp; omega⟩
    simp only [wordS] at h
    split at h
    · cases h
    split at h
    · split at h
      · cases h
        exact key _
      · cases h
    split at h
    · split at h
      · cases h
      · rename_i hd
        cases h
        have := dblP_suf _ _ _ _ _ _ hd
        exact ⟨this.1.trans (List.suffix_cons c t), by simp; omega⟩
    split at h
    · cases h
      exact key _
    split at h
    · split at h
      · cases h
      · cases h
        exact key 1
    · cases h
      exact key 0
theorem wordP_suf : ∀ (k : Nat) (r r' : List UInt8) (ps ps' : List PartD), wordP k r ps = .ok ps' r' → r' <:+ r := by
  intro k
  induction k with
  | zero => intro r r' ps ps' h; cases h; exact List.suffix_refl _
  | succ k ih =>
    intro r r' ps ps' h
    simp only [wordP] at h
    split at h
    · cases h; exact List.suffix_refl _
    · cases h
    · rename_i hs
      exact (ih _ _ _ _ h).trans (wordS_suf hs).1
theorem wordP_bad : ∀ (k : Nat) (r : List UInt8) (ps : List PartD) (j : Nat), wordP k r ps = .bad j → 1 ≤ j ∧ j ≤ r.length := by
  intro k
  induction k with
  | zero => intro r ps j h; cases h
  | succ k ih =>
    intro r ps j h
    simp only [wordP] at h
    split at h
    · cases h
    · rename_i hs
      cases h
      cases r with
      | nil => simp [wordS] at hs
      | cons c t => simp
    · rename_i hs
      have h1 := ih _ _ _ h
      have h2 := (wordS_suf hs).2
      omega
/-- A word that begins at what is no blank and no sign takes a byte at least. -/
theorem wordP_lt {k : Nat} {c : UInt8} {t r' : List UInt8} {ps ps' : List PartD} (h : wordP (k + 1) (c :: t) ps = .ok ps' r') (h1 : c.toNat ≠ 32) (h2 : opL (c :: t) = []) : r'.length < (c :: t).length := by
  simp only [wordP] at h
  split at h
  · rename_i hs
    exfalso
    simp only [wordS] at hs
    rw [if_neg (fun e => e.elim h1 (fun e => e h2))] at hs
    split at hs
    · split at hs <;> cases hs
    split at hs
    · split at hs <;> cases hs
    split at hs
    · cases hs
    split at hs
    · split at hs <;> cases hs
    · cases hs
  · cases h
  · rename_i hs
    have := (wordP_suf _ _ _ _ _ h).length_le
    have := (wordS_suf hs).2
    omega
theorem splitS_suf {n : Nat} {r r' : List UInt8} {ts ts' : List TokD} (h : splitS n r ts = .more ts' r') : r' <:+ r ∧ r'.length < r.length := by
  cases r with
  | nil => simp [splitS] at h
  | cons c t =>
    simp only [splitS] at h
    split at h
    · cases h
      exact ⟨List.suffix_cons c _, by simp⟩
    split at h
    · cases h
    split at h
    · rename_i ho
      cases h
      refine ⟨suf_drop _ _, ?_⟩
      have : 0 < (opL (c :: t)).length := List.length_pos_iff.2 ho
      simp only [List.length_drop, List.length_cons]
      omega
    split at h
    · cases h
    · rename_i h32 _ ho _ _ _ hw
      cases h
      have ho' : opL (c :: t) = [] := Classical.not_not.1 ho
      exact ⟨wordP_suf _ _ _ _ _ hw, wordP_lt hw h32 ho'⟩
theorem drop_of_suf {s r : List UInt8} (h : r <:+ s) : r.length ≤ s.length ∧ s.drop (s.length - r.length) = r := ⟨h.length_le, (List.suffix_iff_eq_drop.1 h).symm⟩
end Go.Proofs.YtjbgkcljjgofnaaDoor
