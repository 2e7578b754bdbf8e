/- The law AsmNear in plain words. Plain theorems, no program in sight. -/
import Derived.Test.YtikbfmjhmjkkgaaDoorAmLines
import Derived.Test.YtikbfmjhmjkkgaaDoorAmText
namespace Go.Proofs.YtikbfmjhmjkkgaaDoor
set_option linter.unusedVariables false

def hereB : Bs := [104, 101, 114, 101]
def addT : Bs := [97, 100, 100, 32, 114, 49, 32, 114, 50]
def jumpT : Bs := [106, 117, 109, 112, 32, 104, 101, 114, 101]
def baseT (a i : Nat) : Bs := if i = a then jumpT else addT
def nrLine (a b i : Nat) : Bs := if i = b then [104, 101, 114, 101, 58, 32] ++ baseT a i else baseT a i
def nrWord (a i : Nat) : Nat := if i = a then 318767104 else 85065728
/-- The unit behind so many lines. -/
def nrUnit (a b k : Nat) : UnD := ⟨(List.range k).map (nrWord a), if b < k then [(hereB, 4 * b)] else [], if a < k then [(4 * a, hereB, 1)] else []⟩
theorem nr_step (a b k : Nat) (hk : k < 128) : lineL (nrUnit a b k) (nrLine a b k) = .ok (nrUnit a b (k + 1)) := by
  have hc : (nrUnit a b k).code.length = k := by simp [nrUnit]
  have hne : (nrUnit a b k).code.length ≠ 128 := by rw [hc]; omega
  have hr : (List.range (k + 1)).map (nrWord a) = (List.range k).map (nrWord a) ++ [nrWord a k] := by rw [List.range_succ, List.map_append]; rfl
  unfold nrLine baseT
  by_cases hb : k = b
  · subst hb
    rw [if_pos rfl]
    have hm : (nrUnit a k k).marks = [] := by simp [nrUnit]
    by_cases ha : k = a
    · subst ha
      rw [if_pos rfl]
      refine (line_herejump _ hne hm).trans ?_
      simp only [UnD.put, nrUnit, hr]
      simp [nrWord, hereB]
    · rw [if_neg ha]
      refine (line_hereadd _ hne hm).trans ?_
      have e1 : (a < k + 1) = (a < k) := by simp; omega
      simp only [UnD.put, nrUnit, hr, e1]
      simp [nrWord, ha, hereB]
  · rw [if_neg hb]
    have e2 : (b < k + 1) = (b < k) := by simp; omega
    by_cases ha : k = a
    · subst ha
      rw [if_pos rfl]
      refine (line_jumphere _ hne).trans ?_
      simp only [UnD.put, nrUnit, hr, e2]
      simp [nrWord, hereB]
    · rw [if_neg ha]
      refine (line_add _ hne).trans ?_
      have e1 : (a < k + 1) = (a < k) := by simp; omega
      simp only [UnD.put, nrUnit, hr, e1, e2]
      simp [nrWord, ha]
theorem nr_lines (a b : Nat) : ∀ (m k : Nat), k + m ≤ 128 → linesL k (nrUnit a b k) ((List.range' k m).map (nrLine a b)) = .ok (nrUnit a b (k + m)) := by
  intro m
  induction m with
  | zero => intro k _; rfl
  | succ m ih =>
    intro k h
    rw [List.range'_succ, List.map_cons, lines_step (nr_step a b k (by omega)), ih (k + 1) (by omega)]
    congr 2
    omega
theorem nrLine_nl (a b i : Nat) : (10 : UInt8) ∉ nrLine a b i := by
  unfold nrLine baseT
  split
  · split <;> decide
  · split <;> decide
theorem nrLine_len (a b i : Nat) : (nrLine a b i).length ≤ 15 := by
  unfold nrLine baseT
  split
  · split <;> decide
  · split <;> decide
def nrAll (a b : Nat) : List Bs := (List.range 31).map (nrLine a b)
def nrText (a b : Nat) : Bs := Lib.join (nrAll a b) [10]
theorem nrAll_cons (a b : Nat) : ∃ x l, nrAll a b = x :: l ∧ (∀ y ∈ x :: l, (10 : UInt8) ∉ y ∧ y.length ≤ 15) ∧ l.length = 30 := by
  refine ⟨nrLine a b 0, (List.range' 1 30).map (nrLine a b), rfl, fun y hy => ?_, by simp⟩
  have : y ∈ (List.range' 0 31).map (nrLine a b) := hy
  obtain ⟨i, _, rfl⟩ := List.mem_map.1 this
  exact ⟨nrLine_nl a b i, nrLine_len a b i⟩
theorem nrText_len (a b : Nat) : (nrText a b).length ≤ 2000 := by
  obtain ⟨x, l, h, hy, hl⟩ := nrAll_cons a b
  unfold nrText
  rw [h, join_len, hl]
  have h1 := (hy x (by simp)).2
  have h2 := lens_le l 15 (fun y hy' => (hy y (by simp [hy'])).2)
  omega
/-- The words when all is settled. -/
def nrCode (a b : Nat) : List Nat := ((List.range 31).map (nrWord a)).set a (placeN 318767104 (4 * a) (4 * b))
theorem nr_read (a b : Nat) (ha : a < 30) (hb : b < 30) : linesL 0 unit0 (linesOf (nrText a b)) = .ok (nrUnit a b 31) ∧ settleL (nrUnit a b 31) = ⟨nrCode a b, [(hereB, 4 * b)], []⟩ := by
  refine ⟨?_, ?_⟩
  · obtain ⟨x, l, h, hy, hl⟩ := nrAll_cons a b
    have h1 : linesOf (nrText a b) = nrAll a b := by
      unfold nrText
      rw [h]
      exact lines_join x l (hy x (by simp)).1 (fun y hy' => (hy y (by simp [hy'])).1)
    rw [h1]
    have h2 := nr_lines a b 31 0 (by omega)
    rw [Nat.zero_add] at h2
    have h3 : nrUnit a b 0 = unit0 := by simp [nrUnit, unit0]
    rw [h3] at h2
    rw [← h2]
    unfold nrAll
    rw [List.range_eq_range']
  · have e1 : nrUnit a b 31 = ⟨(List.range 31).map (nrWord a), [(hereB, 4 * b)], [(4 * a, hereB, 1)]⟩ := by
      unfold nrUnit
      rw [if_pos (by omega), if_pos (by omega)]
    rw [e1]
    unfold settleL
    simp only [List.foldl_cons, List.foldl_nil]
    have e2 : atM [(hereB, 4 * b)] hereB = some ((4 * b : Nat) : Int) := by simp [atM, updS]
    have e3 : settleS [(hereB, 4 * b)] ((List.range 31).map (nrWord a), []) (4 * a, hereB, 1) = (((List.range 31).map (nrWord a)).set a (placeN 318767104 (4 * a) (4 * b)), []) := by
      unfold settleS
      dsimp only
      rw [e2]
      dsimp only
      rw [if_pos rfl]
      have e4 : 4 * a / 4 = a := by omega
      have e5 : ((List.range 31).map (nrWord a)).getD a 0 = 318767104 := by
        rw [List.getD_eq_getElem?_getD, List.getElem?_map, List.getElem?_range (by omega)]
        simp [nrWord]
      rw [e4, e5, Int.toNat_natCast]
    rw [e3]
    rfl
theorem nrCode_len (a b : Nat) : (nrCode a b).length = 31 := by simp [nrCode]
theorem nrCode_at (a b : Nat) (ha : a < 30) : (nrCode a b)[a]? = some (placeN 318767104 (4 * a) (4 * b)) := by
  unfold nrCode
  rw [List.getElem?_set_self (by simp; omega)]
/-- The word of the jump. -/
theorem place_facts (a b : Nat) (ha : a < 30) (hb : b < 30) : ∃ x, placeN 318767104 (4 * a) (4 * b) = x ∧ x ≤ 4294967295 ∧ placeN x (4 * a) (4 * b) = x ∧ x / 16777216 = 19 ∧ ((x % 65536 : Nat) : Int) = (4 * ((b : Int) - a)) % 65536 := by
  refine ⟨_, rfl, ?_⟩
  have h1 : -32768 ≤ ((4 * b : Nat) : Int) - ((4 * a : Nat) : Int) ∧ ((4 * b : Nat) : Int) - ((4 * a : Nat) : Int) ≤ 32767 := by omega
  unfold placeN
  rw [if_pos h1, if_pos h1]
  omega
end Go.Proofs.YtikbfmjhmjkkgaaDoor
