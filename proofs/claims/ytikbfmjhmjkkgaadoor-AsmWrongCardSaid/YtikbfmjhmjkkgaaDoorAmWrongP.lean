/- The law AsmWrong in plain words. Plain theorems, no program in sight. -/
import Derived.Test.YtikbfmjhmjkkgaaDoorAmLines
import Derived.Test.YtikbfmjhmjkkgaaDoorAmText
namespace Go.Proofs.YtikbfmjhmjkkgaaDoor
set_option linter.unusedVariables false

def sysB : Bs := [115, 121, 115]
def whatB : Bs := [119, 104, 97, 116]
def badT : Nat → Bs
  | 0 => [106, 117, 109, 112]
  | 1 => [97, 100, 100, 32, 114, 49]
  | 2 => [97, 100, 100, 32, 114, 49, 32, 114, 57]
  | 3 => [115, 101, 116, 32, 114, 49, 32, 52, 48, 48, 48, 48]
  | 4 => [119, 104, 97, 116, 32, 114, 49]
  | 5 => [97, 58, 32, 97, 58, 32, 115, 121, 115]
  | 6 => [119, 111, 114, 100]
  | _ => [114, 49, 58, 32, 115, 121, 115]
theorem err_inst {u : UnD} {s a : Bs} {r : List Bs} (e1 : s.all okCh = true) (e2 : Lib.fields (Lib.cut s [59]).1 = a :: r) (e3 : Lib.hasSuffix a [58] = false) (h : u.code.length ≠ 128) (ew : a ≠ [119, 111, 114, 100]) (eo : orderL u a r = none) : lineL u s = .err 22 := by
  unfold lineL
  rw [if_pos e1, e2]
  unfold fieldsL
  dsimp only
  rw [e3, if_neg (by decide)]
  unfold instL
  dsimp only
  rw [if_neg h, if_neg ew, eo]
  rfl
theorem err_word {u : UnD} {s : Bs} {r : List Bs} (e1 : s.all okCh = true) (e2 : Lib.fields (Lib.cut s [59]).1 = [119, 111, 114, 100] :: r) (h : u.code.length ≠ 128) (eo : wordL' u r = none) : lineL u s = .err 22 := by
  unfold lineL
  rw [if_pos e1, e2]
  unfold fieldsL
  dsimp only
  rw [show Lib.hasSuffix [119, 111, 114, 100] [58] = false from by decide, if_neg (by decide)]
  unfold instL
  dsimp only
  rw [if_neg h, if_pos rfl, eo]
  rfl
theorem err_mark {u : UnD} {s a m b : Bs} {r : List Bs} (e1 : s.all okCh = true) (e2 : Lib.fields (Lib.cut s [59]).1 = a :: b :: r) (e3 : Lib.hasSuffix a [58] = true) (em : Lib.trimSuffix a [58] = m) (en : nameB m = true) (hm : (u.marks.any fun x => x.1 == m) = false) (h : u.code.length ≠ 128) (ew : b ≠ [119, 111, 114, 100])
    (eo : orderL ⟨u.code, u.marks ++ [(m, 4 * u.code.length)], u.needs⟩ b r = none) : lineL u s = .err 22 := by
  unfold lineL
  rw [if_pos e1, e2]
  unfold fieldsL
  dsimp only
  rw [e3, if_pos rfl, em]
  unfold markL
  rw [if_pos en, hm, if_neg (by decide)]
  dsimp only
  unfold instL
  dsimp only
  rw [if_neg h, if_neg ew, eo]
  rfl
theorem err_name {u : UnD} {s a m : Bs} {r : List Bs} (e1 : s.all okCh = true) (e2 : Lib.fields (Lib.cut s [59]).1 = a :: r) (e3 : Lib.hasSuffix a [58] = true) (em : Lib.trimSuffix a [58] = m) (en : nameB m = false) : lineL u s = .err 22 := by
  unfold lineL
  rw [if_pos e1, e2]
  unfold fieldsL
  dsimp only
  rw [e3, if_pos rfl, em]
  unfold markL
  rw [en, if_neg (by decide)]
theorem line_bad (u : UnD) (q : Nat) (hq : q < 8) (h : u.code.length ≠ 128) (hm : u.marks = []) : lineL u (badT q) = .err 22 := by
  rcases (by omega : q = 0 ∨ q = 1 ∨ q = 2 ∨ q = 3 ∨ q = 4 ∨ q = 5 ∨ q = 6 ∨ q = 7) with rfl | rfl | rfl | rfl | rfl | rfl | rfl | rfl
  · exact err_inst (a := [106, 117, 109, 112]) (r := []) (by decide +kernel) (by decide +kernel) (by decide +kernel) h (by decide) (by kernel_rfl)
  · exact err_inst (a := [97, 100, 100]) (r := [[114, 49]]) (by decide +kernel) (by decide +kernel) (by decide +kernel) h (by decide) (by kernel_rfl)
  · exact err_inst (a := [97, 100, 100]) (r := [[114, 49], [114, 57]]) (by decide +kernel) (by decide +kernel) (by decide +kernel) h (by decide) (by kernel_rfl)
  · exact err_inst (a := [115, 101, 116]) (r := [[114, 49], [52, 48, 48, 48, 48]]) (by decide +kernel) (by decide +kernel) (by decide +kernel) h (by decide) (by kernel_rfl)
  · exact err_inst (a := [119, 104, 97, 116]) (r := [[114, 49]]) (by decide +kernel) (by decide +kernel) (by decide +kernel) h (by decide) (by kernel_rfl)
  · exact err_mark (a := [97, 58]) (m := [97]) (b := [97, 58]) (r := [[115, 121, 115]]) (by decide +kernel) (by decide +kernel) (by decide +kernel) (by decide +kernel) (by decide +kernel) (by rw [hm]; rfl) h (by decide) (by kernel_rfl)
  · exact err_word (r := []) (by decide +kernel) (by decide +kernel) h (by kernel_rfl)
  · exact err_name (a := [114, 49, 58]) (m := [114, 49]) (r := [[115, 121, 115]]) (by decide +kernel) (by decide +kernel) (by decide +kernel) (by decide +kernel) (by decide +kernel)
theorem wr_lines (q : Nat) (hq : q < 8) : ∀ (n k : Nat) (u : UnD), u.marks = [] → u.code.length + n < 128 → linesL k u (List.replicate n sysB ++ [badT q, whatB]) = .err (k + n + 1) 22 := by
  intro n
  induction n with
  | zero =>
    intro k u hm hl
    exact lines_err (line_bad u q hq (by omega) hm)
  | succ n ih =>
    intro k u hm hl
    rw [List.replicate_succ, List.cons_append, lines_step (s := sysB) (line_sys u (by omega)), ih (k + 1) (u.put 402653184 [] 2) hm (by simp [UnD.put]; omega)]
    congr 1
    omega
def wrAll (n q : Nat) : List Bs := List.replicate n sysB ++ [badT q, whatB]
def wrText (n q : Nat) : Bs := Lib.join (wrAll n q) [10]
theorem badT_ok (q : Nat) (hq : q < 8) : (10 : UInt8) ∉ badT q ∧ (badT q).length ≤ 12 := by
  rcases (by omega : q = 0 ∨ q = 1 ∨ q = 2 ∨ q = 3 ∨ q = 4 ∨ q = 5 ∨ q = 6 ∨ q = 7) with rfl | rfl | rfl | rfl | rfl | rfl | rfl | rfl <;> decide
theorem wrAll_cons (n q : Nat) (hq : q < 8) : ∃ x l, wrAll n q = x :: l ∧ (∀ y ∈ x :: l, (10 : UInt8) ∉ y ∧ y.length ≤ 12) ∧ l.length = n + 1 := by
  have hall : ∀ y ∈ wrAll n q, (10 : UInt8) ∉ y ∧ y.length ≤ 12 := by
    intro y hy
    rcases List.mem_append.1 hy with h | h
    · rw [List.eq_of_mem_replicate h]; decide
    · rcases List.mem_cons.1 h with rfl | h
      · exact badT_ok q hq
      · rcases List.mem_cons.1 h with rfl | h
        · decide
        · cases h
  have hlen : (wrAll n q).length = n + 2 := by simp [wrAll]
  cases he : wrAll n q with
  | nil => rw [he] at hlen; simp at hlen
  | cons x l =>
    rw [he] at hall hlen
    simp only [List.length_cons] at hlen
    exact ⟨x, l, rfl, hall, by omega⟩
theorem wrAll_len (n q : Nat) : (wrAll n q).length = n + 2 := by simp [wrAll]
theorem wrText_len (n q : Nat) (hn : n ≤ 30) (hq : q < 8) : (wrText n q).length ≤ 2000 := by
  obtain ⟨x, l, h, hy, hl⟩ := wrAll_cons n q hq
  unfold wrText
  rw [h, join_len, hl]
  have h1 := (hy x (by simp)).2
  have h2 := lens_le l 12 (fun y hy' => (hy y (by simp [hy'])).2)
  omega
theorem wr_read (n q : Nat) (hn : n ≤ 30) (hq : q < 8) : linesL 0 unit0 (linesOf (wrText n q)) = .err (n + 1) 22 := by
  obtain ⟨x, l, h, hy, hl⟩ := wrAll_cons n q hq
  have h1 : linesOf (wrText n q) = wrAll n q := by
    unfold wrText
    rw [h]
    exact lines_join x l (hy x (by simp)).1 (fun y hy' => (hy y (by simp [hy'])).1)
  rw [h1]
  have := wr_lines q hq n 0 unit0 rfl (by show 0 + n < 128; omega)
  rw [Nat.zero_add] at this
  exact this
def twoB : Bs := [97, 58, 32, 115, 121, 115, 10, 97, 58, 32, 115, 121, 115]
theorem two_read : linesL 0 unit0 (linesOf twoB) = .err 2 5 := by
  have h1 : linesOf twoB = [[97, 58, 32, 115, 121, 115], [97, 58, 32, 115, 121, 115]] := lines_join [97, 58, 32, 115, 121, 115] [[97, 58, 32, 115, 121, 115]] (by decide) (by decide)
  rw [h1, lines_step (line_asys unit0 (by decide) rfl), lines_err (e := 5) (by kernel_rfl)]
end Go.Proofs.YtikbfmjhmjkkgaaDoor
