/- Words that are printed are read so: the plain law behind WordsBack, second half. Plain theorems, no condition. -/
import Derived.Test.YtjbgkcljjgofnaaDoorWNorm2
namespace Go.Proofs.YtjbgkcljjgofnaaDoor
open Go.RowKit
set_option linter.unusedVariables false

def escQ : List UInt8 → List UInt8
  | [] => []
  | c :: t => if c.toNat = 39 then 39 :: 92 :: 39 :: 39 :: escQ t else c :: escQ t
def quoteL (s : List UInt8) : List UInt8 := 39 :: (escQ s ++ [39])
def printP (p : PartD) : List UInt8 :=
  if p.var = true then (if p.quoted = true then 34 :: 36 :: (p.text ++ [34]) else 36 :: p.text)
  else if p.quoted = true then quoteL p.text else p.text
def printTok (t : TokD) : List UInt8 := if t.op ≠ [] then t.op else t.parts.flatMap printP
def joinS : List (List UInt8) → List UInt8
  | [] => []
  | [x] => x
  | x :: y :: l => x ++ 32 :: joinS (y :: l)
inductive WStar : List UInt8 → List PartD → List UInt8 → List PartD → Prop
  | refl (r : List UInt8) (ps : List PartD) : WStar r ps r ps
  | step {r r1 r2 : List UInt8} {ps ps1 ps2 : List PartD} (h : wordS r ps = .more ps1 r1) (t : WStar r1 ps1 r2 ps2) : WStar r ps r2 ps2
theorem WStar.trans {r1 r2 r3 : List UInt8} {p1 p2 p3 : List PartD} (h : WStar r1 p1 r2 p2) (k : WStar r2 p2 r3 p3) : WStar r1 p1 r3 p3 := by
  induction h with
  | refl => exact k
  | step hs _ ih => exact .step hs (ih k)
theorem WStar.one {r r1 : List UInt8} {ps ps1 : List PartD} (h : wordS r ps = .more ps1 r1) : WStar r ps r1 ps1 := .step h (.refl _ _)
theorem wordP_star {r r' : List UInt8} {ps ps' : List PartD} (h : WStar r ps r' ps') (hf : wordS r' ps' = .fin) : ∀ k, r.length < k → wordP k r ps = .ok ps' r' := by
  induction h with
  | refl r ps =>
    intro k hk
    cases k with
    | zero => omega
    | succ k =>
      simp only [wordP]
      rw [hf]
  | step hs _ ih =>
    intro k hk
    cases k with
    | zero => omega
    | succ k =>
      simp only [wordP]
      rw [hs]
      exact ih hf k (by have := (wordS_suf hs).2; omega)
theorem addP_addP (ps : List PartD) (a b : List UInt8) (q : Bool) : addP (addP ps a q) b q = addP ps (a ++ b) q := by
  rcases List.eq_nil_or_concat ps with rfl | ⟨l, p, rfl⟩
  · simp [addP]
  · rw [List.concat_eq_append, addP_snoc, addP_snoc]
    by_cases h : p.var = false ∧ p.quoted = q
    · rw [if_pos h, if_pos h, addP_snoc, if_pos h, List.append_assoc]
    · rw [if_neg h, if_neg h]
      have e : ∀ y : List UInt8, l ++ [p, (⟨y, false, q⟩ : PartD)] = (l ++ [p]) ++ [⟨y, false, q⟩] := by simp
      rw [e, addP_snoc, if_pos ⟨rfl, rfl⟩, e]
theorem opL_nil {c : UInt8} {t : List UInt8} (h : c.toNat ≠ 38 ∧ c.toNat ≠ 124 ∧ c.toNat ≠ 62 ∧ c.toNat ≠ 59 ∧ c.toNat ≠ 60 ∧ c.toNat ≠ 40 ∧ c.toNat ≠ 41) : opL (c :: t) = [] := by
  have ne : ∀ d : UInt8, c.toNat ≠ d.toNat → (d == c) = false := fun d e => by
    simp only [beq_eq_false_iff_ne, ne_eq]
    intro e2
    exact e (by rw [e2])
  have a1 := ne 38 h.1
  have a2 := ne 124 h.2.1
  have a3 := ne 62 h.2.2.1
  have a4 := ne 59 h.2.2.2.1
  have a5 := ne 60 h.2.2.2.2.1
  have a6 := ne 40 h.2.2.2.2.2.1
  have a7 := ne 41 h.2.2.2.2.2.2
  simp [opL, opsL, opF, List.isPrefixOf, a1, a2, a3, a4, a5, a6, a7]
theorem sglL_app (a b : List UInt8) (h : ∀ c ∈ a, c.toNat ≠ 39) : sglL (a ++ 39 :: b) = a := by
  unfold sglL
  induction a with
  | nil => rfl
  | cons c a ih =>
    have hc := h c (by simp)
    rw [List.cons_append, List.takeWhile_cons, if_pos (by simpa using hc), ih (fun d hd => h d (by simp [hd]))]
theorem read_single (a b : List UInt8) (ps : List PartD) (h : ∀ c ∈ a, c.toNat ≠ 39) : wordS (39 :: (a ++ 39 :: b)) ps = .more (addP ps a true) b := by
  simp only [wordS]
  rw [if_neg (by rw [opL_nil (by decide)]; decide), if_pos (by decide), sglL_app a b h, if_pos (by simp)]
  simp
theorem read_back (d : UInt8) (b : List UInt8) (ps : List PartD) : wordS (92 :: d :: b) ps = .more (addP ps [d] true) b := by
  simp only [wordS]
  rw [if_neg (by rw [opL_nil (by decide)]; decide), if_neg (by decide), if_neg (by decide), if_neg (by decide), if_pos (by decide)]
theorem read_esc : ∀ (x pre rest : List UInt8) (ps : List PartD), (∀ c ∈ pre, c.toNat ≠ 39) → WStar (39 :: (pre ++ escQ x ++ 39 :: rest)) ps rest (addP ps (pre ++ x) true) := by
  intro x
  induction x with
  | nil =>
    intro pre rest ps h
    simp only [escQ, List.append_nil]
    exact .one (read_single pre rest ps h)
  | cons c t ih =>
    intro pre rest ps h
    by_cases hc : c.toNat = 39
    · have hc' : c = 39 := UInt8.toNat_inj.1 hc
      subst hc'
      simp only [escQ]
      rw [if_pos hc]
      have e : pre ++ 39 :: 92 :: 39 :: 39 :: escQ t ++ 39 :: rest = pre ++ 39 :: (92 :: 39 :: 39 :: (escQ t ++ 39 :: rest)) := by simp
      rw [e]
      refine (WStar.one (read_single pre _ ps h)).trans ((WStar.one (read_back 39 _ _)).trans ?_)
      have := ih [] rest (addP (addP ps pre true) [39] true) (fun c hc => by cases hc)
      rw [addP_addP, addP_addP] at this
      rw [addP_addP]
      simpa using this
    · simp only [escQ]
      rw [if_neg hc]
      have := ih (pre ++ [c]) rest ps (by
        intro d hd
        rcases List.mem_append.1 hd with hd | hd
        · exact h d hd
        · rw [List.mem_singleton] at hd
          rw [hd]
          exact hc)
      simpa using this
theorem read_quote (x rest : List UInt8) (ps : List PartD) : WStar (quoteL x ++ rest) ps rest (addP ps x true) := by
  have := read_esc x [] rest ps (fun c hc => by cases hc)
  simpa [quoteL] using this
theorem varN_no {r : List UInt8} (h : noName r = true) : varN r = 0 := by
  cases r with
  | nil => rfl
  | cons d t =>
    simp only [noName, Bool.and_eq_true, Bool.not_eq_true', decide_eq_true_eq] at h
    have : d ≠ 63 := fun e => h.2 (by rw [e]; rfl)
    simp [varN, varK, h.1, this]
theorem read_one {c : UInt8} {r : List UInt8} (ps : List PartD) (hc : rawC c = true) (h36 : c.toNat ≠ 36 ∨ noName r = true) : wordS (c :: r) ps = .more (addP ps [c] false) r := by
  have h := of_decide_eq_true hc
  simp only [wordS]
  rw [if_neg (by rw [opL_nil ⟨h.2.1, h.2.2.1, h.2.2.2.1, h.2.2.2.2.1, h.2.2.2.2.2.1, h.2.2.2.2.2.2.1, h.2.2.2.2.2.2.2.1⟩]; simp [h.1]), if_neg h.2.2.2.2.2.2.2.2.1, if_neg h.2.2.2.2.2.2.2.2.2.1]
  by_cases e : c.toNat = 36
  · have hr : noName r = true := h36.resolve_left (fun k => k e)
    have e' : c = 36 := UInt8.toNat_inj.1 e
    rw [if_pos e]
    unfold varP
    rw [varN_no hr, if_pos rfl, List.drop_zero, e']
  · rw [if_neg e, if_neg h.2.2.2.2.2.2.2.2.2.2]
theorem noName_app (t r : List UInt8) (h : t ≠ []) : noName (t ++ r) = noName t := by
  cases t with
  | nil => exact absurd rfl h
  | cons => rfl
theorem read_raw : ∀ (x rest : List UInt8) (ps : List PartD), x ≠ [] → rawOk x = true → (x.getLast? = some 36 → noName rest = true) → WStar (x ++ rest) ps rest (addP ps x false) := by
  intro x
  induction x with
  | nil => intro rest ps h; exact absurd rfl h
  | cons c t ih =>
    intro rest ps _ hok hl
    simp only [rawOk, Bool.and_eq_true, Bool.or_eq_true, decide_eq_true_eq] at hok
    cases t with
    | nil =>
      refine .one (read_one ps hok.1.1 ?_)
      by_cases e : c.toNat = 36
      · have e' : c = 36 := UInt8.toNat_inj.1 e
        exact .inr (hl (by rw [e']; rfl))
      · exact .inl e
    | cons d t =>
      have h1 : WStar (c :: (d :: t ++ rest)) ps (d :: t ++ rest) (addP ps [c] false) := .one (read_one ps hok.1.1 (by
        rcases hok.1.2 with e | e
        · exact .inl e
        · exact .inr (by rw [noName_app _ _ (by simp)]; exact e)))
      have h2 := ih rest (addP ps [c] false) (by simp) hok.2 (fun e => hl (by rw [List.getLast?_cons_cons]; exact e))
      rw [addP_addP] at h2
      exact h1.trans h2
theorem varN_full (x r : List UInt8) (h : x = [63] ∨ nameB x = true) (hr : x ≠ [63] → headNo r = true) : varN (x ++ r) = x.length ∧ x ≠ [] := by
  rcases h with rfl | h
  · exact ⟨rfl, by simp⟩
  · cases x with
    | nil => cases h
    | cons c t =>
      have hc : c ≠ 63 := by
        rintro rfl
        simp [nameB, nameOk, firstC] at h
      simp only [nameB, nameOk, Bool.and_eq_true] at h
      have hr' := hr (by simp [hc])
      refine ⟨?_, by simp⟩
      have e : varN (c :: t ++ r) = varK (c :: t ++ r) := by simp [varN, hc]
      rw [e]
      simp only [List.cons_append, varK, h.1.1, if_true, List.length_cons]
      rw [nLen_full t r h.1.2 hr']
      omega
theorem varP_full (x r : List UInt8) (ps : List PartD) (q : Bool) (h : x = [63] ∨ nameB x = true) (hr : x ≠ [63] → headNo r = true) : varP (x ++ r) ps q = ps ++ [⟨x, true, q⟩] ∧ (x ++ r).drop (varN (x ++ r)) = r := by
  obtain ⟨h1, h2⟩ := varN_full x r h hr
  unfold varP
  rw [h1, if_neg (fun e => h2 (List.eq_nil_of_length_eq_zero e))]
  simp
theorem read_var (x r : List UInt8) (ps : List PartD) (h : x = [63] ∨ nameB x = true) (hr : x ≠ [63] → headNo r = true) : wordS (36 :: (x ++ r)) ps = .more (ps ++ [⟨x, true, false⟩]) r := by
  obtain ⟨h1, h2⟩ := varP_full x r ps false h hr
  simp only [wordS]
  rw [if_neg (by rw [opL_nil (by decide)]; decide), if_neg (by decide), if_neg (by decide), if_pos (by decide), h1, h2]
theorem read_varQ (x r : List UInt8) (ps : List PartD) (h : x = [63] ∨ nameB x = true) : wordS (34 :: 36 :: (x ++ 34 :: r)) ps = .more (ps ++ [⟨x, true, true⟩]) r := by
  obtain ⟨h1, h2⟩ := varP_full x (34 :: r) ps true h (fun _ => by simp [headNo]; decide)
  have hd : dblP ((36 :: (x ++ 34 :: r)).length + 1) true (36 :: (x ++ 34 :: r)) ps = some (ps ++ [⟨x, true, true⟩], r) := by
    have e : (36 :: (x ++ 34 :: r)).length + 1 = ((x ++ r).length + 1) + 1 + 1 := by simp; omega
    rw [e]
    have s1 : dblS true (36 :: (x ++ 34 :: r)) ps = .more (ps ++ [⟨x, true, true⟩]) (34 :: r) := by
      rw [← h1]
      simp only [dblS]
      rw [if_neg (by decide), if_pos (by decide), h2]
    have s2 : dblS false (34 :: r) (ps ++ [⟨x, true, true⟩]) = .fin (ps ++ [⟨x, true, true⟩]) r := by
      simp only [dblS]
      rw [if_pos (by decide), if_neg (by decide)]
    simp only [dblP]
    rw [s1]
    simp only
    rw [s2]
  simp only [wordS]
  rw [if_neg (by rw [opL_nil (by decide)]; decide), if_neg (by decide), if_pos (by decide), hd]
/-- What stands behind a word. -/
def Gap (r : List UInt8) : Prop := r = [] ∨ ∃ t, r = 32 :: t
theorem Gap.join {r : List UInt8} (h : Gap r) (p : PartD) : joinOk p r = true := by
  rcases h with rfl | ⟨t, rfl⟩
  · simp [joinOk, headNo, noName]
  · have a : nameC 32 = false := by decide
    have b : firstC 32 = false := by decide
    simp [joinOk, headNo, noName, a, b]
theorem Gap.fin {r : List UInt8} (h : Gap r) (ps : List PartD) : wordS r ps = .fin := by
  rcases h with rfl | ⟨t, rfl⟩
  · rfl
  · simp [wordS]
theorem join_next {p q : PartD} {r : List UInt8} (h : pairOk p q = true) (hq : partOk q = true) : joinOk p (printP q ++ r) = true := by
  have a1 : nameC 34 = false := by decide
  have a2 : nameC 36 = false := by decide
  have a3 : nameC 39 = false := by decide
  have b1 : firstC 34 = false := by decide
  have b2 : firstC 36 = false := by decide
  have b3 : firstC 39 = false := by decide
  obtain ⟨x, v, u⟩ := q
  cases v
  · cases u
    · simp only [partOk] at hq
      cases x with
      | nil => simp at hq
      | cons d x =>
        simp only [pairOk] at h
        simp only [printP, joinOk]
        obtain ⟨y, pv, pq⟩ := p
        have e1 : headNo (d :: x ++ r) = headNo (d :: x) := rfl
        simp only [Bool.false_eq_true, if_false, e1]
        cases pv <;> cases pq <;> simp_all
    · simp [printP, quoteL, joinOk, headNo, noName, a3, b3]
  · cases u
    · simp [printP, joinOk, headNo, noName, a2, b2]
    · simp [printP, joinOk, headNo, noName, a1, b1]
theorem read_part {p : PartD} {ps : List PartD} {r : List UInt8} (hp : partOk p = true) (hl : match ps.getLast? with | none => true = true | some q => pairOk q p = true) (hj : joinOk p r = true) : WStar (printP p ++ r) ps r (ps ++ [p]) := by
  have merge : p.var = false → addP ps p.text p.quoted = ps ++ [p] := by
    intro hv
    rcases List.eq_nil_or_concat ps with rfl | ⟨l, q, rfl⟩
    · obtain ⟨x, v, u⟩ := p
      simp only at hv
      subst hv
      rfl
    · rw [List.concat_eq_append] at *
      simp only [List.getLast?_append, List.getLast?_singleton, Option.some_or] at hl
      rw [addP_snoc, if_neg]
      · obtain ⟨x, v, u⟩ := p
        simp only at hv
        subst hv
        simp
      · rintro ⟨e1, e2⟩
        simp [pairOk, e1, hv, e2] at hl
  obtain ⟨x, v, u⟩ := p
  cases v
  · have hm := merge rfl
    dsimp only at hm
    rw [← hm]
    cases u
    · simp only [partOk, Bool.false_eq_true, if_false, Bool.and_eq_true] at hp
      refine read_raw x r ps (by intro e; rw [e] at hp; simp at hp) hp.2 (fun e => ?_)
      simp only [joinOk] at hj
      simpa [e] using hj
    · exact read_quote x r ps
  · have hx : x = [63] ∨ nameB x = true := by
      simp only [partOk, if_true, Bool.or_eq_true, decide_eq_true_eq] at hp
      exact hp
    cases u
    · exact .one (read_var x r ps hx (fun e => by
        simp only [joinOk] at hj
        simpa [e] using hj))
    · have := read_varQ x r ps hx
      have e : printP ⟨x, true, true⟩ ++ r = 34 :: 36 :: (x ++ 34 :: r) := by simp [printP]
      rw [e]
      exact .one this
theorem chain_app : ∀ (a b : List PartD), chainOk (a ++ b) = true → chainOk a = true := by
  intro a
  induction a with
  | nil => intro b _; rfl
  | cons p a ih =>
    intro b h
    cases a with
    | nil =>
      cases b with
      | nil => exact h
      | cons q l =>
        simp only [List.cons_append, List.nil_append, chainOk, Bool.and_eq_true] at h
        exact h.1.1
    | cons q a =>
      simp only [List.cons_append, chainOk, Bool.and_eq_true] at h
      have := ih b (by simpa using h.2)
      simp only [chainOk, Bool.and_eq_true]
      exact ⟨h.1, this⟩
theorem read_parts : ∀ (l ps : List PartD) (r : List UInt8), chainOk (ps ++ l) = true → Gap r → WStar (l.flatMap printP ++ r) ps r (ps ++ l) := by
  intro l
  induction l with
  | nil => intro ps r _ _; rw [List.append_nil]; exact .refl _ _
  | cons p l ih =>
    intro ps r hc hg
    have hsplit : ps ++ p :: l = (ps ++ [p]) ++ l := by simp
    have h2 : chainOk (ps ++ [p]) = true := chain_app _ l (by rw [← hsplit]; exact hc)
    rw [chain_snoc] at h2
    simp only [Bool.and_eq_true] at h2
    have hj : joinOk p (l.flatMap printP ++ r) = true := by
      cases l with
      | nil => exact hg.join p
      | cons q l =>
        have h3 : chainOk (ps ++ [p] ++ [q]) = true := chain_app _ l (by simpa using hc)
        rw [chain_snoc] at h3
        simp only [Bool.and_eq_true, List.getLast?_append, List.getLast?_singleton, Option.some_or] at h3
        rw [List.flatMap_cons, List.append_assoc]
        exact join_next h3.1.2 h3.2
    rw [List.flatMap_cons, List.append_assoc]
    refine (read_part h2.2 ?_ hj).trans ?_
    · cases hq : ps.getLast? with
      | none => rfl
      | some q => have := h2.1.2; rw [hq] at this; exact this
    · have := ih (ps ++ [p]) r (by rw [← hsplit]; exact hc) hg
      rw [← hsplit] at this
      exact this
/-- The first byte of a word that is printed. -/
theorem head_print {p : PartD} (r : List UInt8) (hp : partOk p = true) (hf : (p.var || p.quoted || decide (p.text.head? ≠ some 35)) = true) : ∃ c t, printP p ++ r = c :: t ∧ c.toNat ≠ 32 ∧ c.toNat ≠ 35 ∧ opL (c :: t) = [] := by
  obtain ⟨x, v, u⟩ := p
  cases v
  · cases u
    · simp only [partOk, Bool.false_eq_true, if_false, Bool.and_eq_true] at hp
      cases x with
      | nil => simp at hp
      | cons d x =>
        simp only [rawOk, Bool.and_eq_true] at hp
        have h := of_decide_eq_true hp.2.1.1
        refine ⟨d, x ++ r, rfl, h.1, fun e => ?_, opL_nil ⟨h.2.1, h.2.2.1, h.2.2.2.1, h.2.2.2.2.1, h.2.2.2.2.2.1, h.2.2.2.2.2.2.1, h.2.2.2.2.2.2.2.1⟩⟩
        have e' : d = 35 := UInt8.toNat_inj.1 e
        subst e'
        simp at hf
    · exact ⟨39, escQ x ++ [39] ++ r, by simp [printP, quoteL], by decide, by decide, opL_nil (by decide)⟩
  · cases u
    · exact ⟨36, x ++ r, rfl, by decide, by decide, opL_nil (by decide)⟩
    · exact ⟨34, 36 :: (x ++ [34]) ++ r, by simp [printP], by decide, by decide, opL_nil (by decide)⟩
theorem op_read {o r : List UInt8} (h : o ∈ opsL) (hg : Gap r) : opL (o ++ r) = o ∧ ∃ c t, o ++ r = c :: t ∧ c.toNat ≠ 32 ∧ c.toNat ≠ 35 := by
  simp only [opsL, List.mem_cons, List.not_mem_nil, or_false] at h
  rcases hg with rfl | ⟨t, rfl⟩
  · rcases h with rfl | rfl | rfl | rfl | rfl | rfl | rfl | rfl | rfl | rfl <;> exact ⟨by decide, _, _, rfl, by decide, by decide⟩
  · rcases h with rfl | rfl | rfl | rfl | rfl | rfl | rfl | rfl | rfl | rfl <;> exact ⟨by simp [opL, opsL, opF, List.isPrefixOf], _, _, rfl, by decide, by decide⟩
theorem read_tok {t : TokD} (ht : TokOk t) {r : List UInt8} (hg : Gap r) (n : Nat) (acc : List TokD) : ∃ k, splitS n (printTok t ++ r) acc = .more (acc ++ [⟨t.op, t.parts, k⟩]) r := by
  obtain ⟨op, parts, at_⟩ := t
  rcases ht with ⟨h1, h2⟩ | ⟨h1, h2, h3, h4, h5⟩
  · dsimp only at h1 h2
    subst h2
    have hne : op ≠ [] := by
      rintro rfl
      revert h1
      decide
    obtain ⟨ho, c, u, e, c32, c35⟩ := op_read h1 hg
    have hp : printTok ⟨op, [], at_⟩ = op := by simp [printTok, hne]
    rw [hp]
    refine ⟨n - (op ++ r).length, ?_⟩
    rw [e] at ho ⊢
    simp only [splitS]
    rw [if_neg c32, if_neg c35, if_pos (by rw [ho]; exact hne), ho, ← e]
    simp
  · dsimp only at h1 h2 h3 h4 h5
    subst h1
    have hp : printTok ⟨[], parts, at_⟩ = parts.flatMap printP := by simp [printTok]
    rw [hp]
    have hstar := read_parts parts [] r (by simpa using h3) hg
    rw [List.nil_append] at hstar
    obtain ⟨c, u, e, c32, c35, co⟩ : ∃ c u, parts.flatMap printP ++ r = c :: u ∧ c.toNat ≠ 32 ∧ c.toNat ≠ 35 ∧ opL (c :: u) = [] := by
      cases parts with
      | nil => exact absurd rfl h2
      | cons p l =>
        rw [List.flatMap_cons, List.append_assoc]
        have hpo : partOk p = true := by
          have := chain_app [p] l h3
          simpa [chainOk] using this
        exact head_print _ hpo h4
    refine ⟨n - (parts.flatMap printP ++ r).length, ?_⟩
    have hw := wordP_star hstar (hg.fin _) ((parts.flatMap printP ++ r).length + 1) (by omega)
    rw [e] at hw ⊢
    simp only [splitS]
    rw [if_neg c32, if_neg c35, if_neg (fun k => k co), hw]
theorem read_line (n : Nat) : ∀ (ts acc : List TokD) (F : Nat), (∀ t ∈ ts, TokOk t) → (joinS (ts.map printTok)).length < F → ∃ ms, splitP F n (joinS (ts.map printTok)) acc = .ok (acc ++ ms) ∧ ms.map (fun t => (t.op, t.parts)) = ts.map (fun t => (t.op, t.parts)) := by
  intro ts
  induction ts with
  | nil =>
    intro acc F _ hF
    cases F with
    | zero => simp at hF
    | succ F => exact ⟨[], by simp [joinS, splitP, splitS], rfl⟩
  | cons t ts ih =>
    intro acc F hok hF
    have ht := hok t (by simp)
    cases ts with
    | nil =>
      obtain ⟨k, hk⟩ := read_tok ht (r := []) (.inl rfl) n acc
      rw [List.append_nil] at hk
      cases F with
      | zero => simp at hF
      | succ F =>
        refine ⟨[⟨t.op, t.parts, k⟩], ?_, rfl⟩
        simp only [List.map_cons, List.map_nil, joinS, splitP]
        rw [hk]
        cases F with
        | zero => rfl
        | succ F => simp [splitP, splitS]
    | cons u ts =>
      obtain ⟨k, hk⟩ := read_tok ht (r := 32 :: joinS ((u :: ts).map printTok)) (.inr ⟨_, rfl⟩) n acc
      have e : joinS ((t :: u :: ts).map printTok) = printTok t ++ 32 :: joinS ((u :: ts).map printTok) := rfl
      rw [e] at hF ⊢
      have hlt := (splitS_suf hk).2
      simp only [List.length_append, List.length_cons] at hF hlt
      obtain ⟨G, rfl⟩ : ∃ G, F = G + 2 := ⟨F - 2, by omega⟩
      obtain ⟨ms, h1, h2⟩ := ih (acc ++ [⟨t.op, t.parts, k⟩]) G (fun x hx => hok x (by simp [hx])) (by omega)
      refine ⟨⟨t.op, t.parts, k⟩ :: ms, ?_, by rw [List.map_cons, h2]; rfl⟩
      have s2 : splitS n (32 :: joinS ((u :: ts).map printTok)) (acc ++ [⟨t.op, t.parts, k⟩]) = .more (acc ++ [⟨t.op, t.parts, k⟩]) (joinS ((u :: ts).map printTok)) := by
        simp only [splitS]
        rw [if_pos (by decide)]
      simp only [splitP]
      rw [hk]
      simp only
      rw [s2]
      simp only
      rw [h1]
      simp
/-- The law behind WordsBack. -/
theorem read_back_line (ts : List TokD) (h : ∀ t ∈ ts, TokOk t) : ∃ ms, splitD (joinS (ts.map printTok)) = .ok ms ∧ ms.map (fun t => (t.op, t.parts)) = ts.map (fun t => (t.op, t.parts)) := by
  obtain ⟨ms, h1, h2⟩ := read_line (joinS (ts.map printTok)).length ts [] ((joinS (ts.map printTok)).length + 1) h (Nat.lt_succ_self _)
  exact ⟨ms, by simpa [splitD] using h1, h2⟩
theorem prn_esc (x : List UInt8) (h : Prn x) : Prn (escQ x) := by
  induction x with
  | nil => exact h
  | cons c t ih =>
    have := ih h.tail
    simp only [escQ]
    split
    · intro d hd
      simp only [List.mem_cons] at hd
      rcases hd with rfl | rfl | rfl | rfl | hd
      · decide
      · decide
      · decide
      · decide
      · exact this d hd
    · intro d hd
      rcases List.mem_cons.1 hd with rfl | hd
      · exact h d (by simp)
      · exact this d hd
theorem prn_app {a b : List UInt8} (ha : Prn a) (hb : Prn b) : Prn (a ++ b) := fun c hc => (List.mem_append.1 hc).elim (ha c) (hb c)
theorem prn_quote (x : List UInt8) (h : Prn x) : Prn (quoteL x) := by
  have e : quoteL x = [39] ++ (escQ x ++ [39]) := rfl
  have h39 : Prn [39] := by intro c hc; simp at hc; subst hc; decide
  rw [e]
  exact prn_app h39 (prn_app (prn_esc x h) h39)
theorem prn_part (p : PartD) (h : Prn p.text) : Prn (printP p) := by
  have h34 : Prn [34] := by intro c hc; simp at hc; subst hc; decide
  obtain ⟨x, v, u⟩ := p
  cases v
  · cases u
    · exact h
    · exact prn_quote x h
  · cases u
    · exact prn_app prn_36 h
    · exact prn_app h34 (prn_app prn_36 (prn_app h h34))
theorem prn_tok {t : TokD} (h : TokOk t) : Prn (printTok t) := by
  unfold printTok
  rcases h with ⟨h1, h2⟩ | ⟨h1, h2, h3, h4, h5⟩
  · split
    · have key : ∀ o ∈ opsL, ∀ c ∈ o, 32 ≤ UInt8.toNat c ∧ UInt8.toNat c ≤ 126 := by decide
      exact key _ h1
    · rw [h2]
      intro c hc
      cases hc
  · rw [if_neg (fun k => k h1)]
    intro c hc
    obtain ⟨p, hp, hc⟩ := List.mem_flatMap.1 hc
    exact prn_part p (h5 p hp) c hc
theorem prn_join : ∀ (l : List (List UInt8)), (∀ x ∈ l, Prn x) → Prn (joinS l) := by
  intro l
  induction l with
  | nil => intro _ c hc; cases hc
  | cons x l ih =>
    intro h
    cases l with
    | nil => exact h x (by simp)
    | cons y l =>
      have h32 : Prn [32] := by intro c hc; simp at hc; subst hc; decide
      exact prn_app (h x (by simp)) (prn_app h32 (ih (fun z hz => h z (by simp [hz]))))
theorem prn_line (ts : List TokD) (h : ∀ t ∈ ts, TokOk t) : Prn (joinS (ts.map printTok)) := prn_join _ (fun x hx => by
  obtain ⟨t, ht, rfl⟩ := List.mem_map.1 hx
  exact prn_tok (h t ht))
/-- A text that is quoted is one word of one part. -/
theorem split_quote (x : List UInt8) : ∃ k, splitD (quoteL x) = .ok [⟨[], [⟨x, false, true⟩], k⟩] := by
  have hq : TokOk ⟨[], [⟨x, false, true⟩], 0⟩ ∨ True := .inr trivial
  have hstar := read_parts [⟨x, false, true⟩] [] [] (by simp [chainOk, partOk]) (.inl rfl)
  have hw := wordP_star hstar rfl ((quoteL x).length + 1) (by simp [printP])
  have e : quoteL x = 39 :: (escQ x ++ [39]) := rfl
  refine ⟨(quoteL x).length - (quoteL x).length, ?_⟩
  simp only [List.flatMap_cons, List.flatMap_nil, List.append_nil, printP] at hw
  simp only [Bool.false_eq_true, if_false, if_true, List.nil_append] at hw
  unfold splitD
  rw [e] at hw ⊢
  have s1 : splitS (39 :: (escQ x ++ [39])).length (39 :: (escQ x ++ [39])) [] = .more [⟨[], [⟨x, false, true⟩], (39 :: (escQ x ++ [39])).length - (39 :: (escQ x ++ [39])).length⟩] [] := by
    simp only [splitS]
    rw [if_neg (by decide), if_neg (by decide), if_neg (fun k => k (opL_nil (by decide))), hw]
    rfl
  simp only [splitP]
  rw [s1]
  have e2 : (39 :: (escQ x ++ [39])).length = ((escQ x).length + 1) + 1 := by simp
  rw [e2]
  simp [splitP, splitS]
end Go.Proofs.YtjbgkcljjgofnaaDoor
