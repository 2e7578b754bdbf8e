/- The law AsmNeeds in plain words. Plain theorems, no program in sight. -/
import Derived.Test.YtikbfmjhmjkkgaaDoorAmLines
import Derived.Test.YtikbfmjhmjkkgaaDoorAmText
namespace Go.Proofs.YtikbfmjhmjkkgaaDoor
set_option linter.unusedVariables false

def farB : Bs := [102, 97, 114]
/-- The line of a kind; what it puts. -/
def ndLine (q : Nat) : Bs := if q = 0 then [106, 117, 109, 112, 32, 102, 97, 114] else if q = 1 then [115, 101, 116, 32, 114, 51, 32, 102, 97, 114] else if q = 2 then [119, 111, 114, 100, 32, 102, 97, 114] else [115, 121, 115, 32, 59, 32, 110, 111, 116, 104, 105, 110, 103]
def putQ (u : UnD) (q : Nat) : UnD := if q = 0 then u.put 318767104 farB 1 else if q = 1 then u.put 36700160 farB 2 else if q = 2 then u.put 0 farB 3 else u.put 402653184 [] 2
theorem line_q (u : UnD) (q : Nat) (hq : q < 4) (h : u.code.length ≠ 128) : lineL u (ndLine q) = .ok (putQ u q) := by
  rcases (by omega : q = 0 ∨ q = 1 ∨ q = 2 ∨ q = 3) with rfl | rfl | rfl | rfl
  · exact line_jumpfar u h
  · exact line_setfar u h
  · exact line_wordfar u h
  · exact line_sysn u h
theorem putQ_code (u : UnD) (q : Nat) : (putQ u q).code.length = u.code.length + 1 := by
  unfold putQ
  split
  · simp [UnD.put]
  · split
    · simp [UnD.put]
    · split <;> simp [UnD.put]
theorem putQ_marks (u : UnD) (q : Nat) : (putQ u q).marks = u.marks := by
  unfold putQ
  split
  · rfl
  · split
    · rfl
    · split <;> rfl
theorem putQ_needs (u : UnD) (q : Nat) (hq : q < 4) : (putQ u q).needs = if q = 3 then u.needs else u.needs ++ [(4 * u.code.length, farB, q + 1)] := by
  rcases (by omega : q = 0 ∨ q = 1 ∨ q = 2 ∨ q = 3) with rfl | rfl | rfl | rfl <;> rfl
def allQ (qs : List Nat) : UnD := qs.foldl putQ unit0
theorem allQ_next (qs : List Nat) (k : Nat) (h : k < qs.length) : allQ (qs.take (k + 1)) = putQ (allQ (qs.take k)) qs[k] := by
  unfold allQ
  rw [List.take_succ_eq_append_getElem h, List.foldl_append]
  rfl
theorem fold_code : ∀ (qs : List Nat) (u : UnD), (qs.foldl putQ u).code.length = u.code.length + qs.length ∧ (qs.foldl putQ u).marks = u.marks := by
  intro qs
  induction qs with
  | nil => intro u; simp
  | cons q qs ih =>
    intro u
    obtain ⟨h1, h2⟩ := ih (putQ u q)
    rw [List.foldl_cons, h1, h2, putQ_code, putQ_marks]
    exact ⟨by simp; omega, rfl⟩
theorem lines_q : ∀ (qs : List Nat) (k : Nat) (u : UnD), (∀ q ∈ qs, q < 4) → u.code.length + qs.length ≤ 128 → linesL k u (qs.map ndLine) = .ok (qs.foldl putQ u) := by
  intro qs
  induction qs with
  | nil => intro k u _ _; rfl
  | cons q qs ih =>
    intro k u h1 h2
    rw [List.map_cons, lines_step (line_q u q (h1 q (by simp)) (by simp at h2; omega)), List.foldl_cons]
    exact ih _ _ (fun x hx => h1 x (by simp [hx])) (by rw [putQ_code]; simp at h2; omega)
theorem ndLine_nl (q : Nat) : (10 : UInt8) ∉ ndLine q := by
  unfold ndLine
  split
  · decide
  · split
    · decide
    · split <;> decide
theorem ndLine_len (q : Nat) : (ndLine q).length ≤ 13 := by
  unfold ndLine
  split
  · decide
  · split
    · decide
    · split <;> decide
/-- The text that the law reads. -/
def textQ (qs : List Nat) : Bs := Lib.join (qs.map ndLine) [10]
theorem textQ_len (qs : List Nat) (h : qs.length ≤ 40) : (textQ qs).length ≤ 2000 := by
  cases qs with
  | nil => simp [textQ, Lib.join]
  | cons q qs =>
    unfold textQ
    rw [List.map_cons, join_len]
    have h1 := ndLine_len q
    have h2 := lens_le (qs.map ndLine) 13 (fun x hx => by obtain ⟨y, _, rfl⟩ := List.mem_map.1 hx; exact ndLine_len y)
    simp only [List.length_map, List.length_cons] at h2 h ⊢
    omega
theorem line_empty (u : UnD) : lineL u [] = .ok u := by rfl
theorem read_q (qs : List Nat) (h4 : ∀ q ∈ qs, q < 4) (h : qs.length ≤ 40) : linesL 0 unit0 (linesOf (textQ qs)) = .ok (allQ qs) ∧ settleL (allQ qs) = allQ qs := by
  refine ⟨?_, settle_none _ (fold_code qs unit0).2⟩
  cases qs with
  | nil =>
    have : linesOf (textQ []) = [[]] := by
      have := lines_join [] [] (by simp) (by simp)
      exact this
    rw [this, lines_step (line_empty unit0)]
    rfl
  | cons q qs =>
    have : linesOf (textQ (q :: qs)) = (q :: qs).map ndLine := lines_join (ndLine q) (qs.map ndLine) (ndLine_nl q) (fun y hy => by obtain ⟨z, _, rfl⟩ := List.mem_map.1 hy; exact ndLine_nl z)
    rw [this]
    exact lines_q (q :: qs) 0 unit0 h4 (by show 0 + _ ≤ 128; omega)
theorem read_one : linesL 0 unit0 (linesOf [119, 111, 114, 100, 32, 102, 97, 114]) = .ok (unit0.put 0 farB 3) ∧ settleL (unit0.put 0 farB 3) = unit0.put 0 farB 3 := by
  have := read_q [2] (by simp) (by simp)
  exact this
end Go.Proofs.YtikbfmjhmjkkgaaDoor
