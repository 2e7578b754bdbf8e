/- Lines of a text, in plain words. Plain theorems, no condition. -/
import Derived.Test.YtjmonkacijncbaaGreatDoorStr
import Derived.Lib.SplitLaws
import Derived.Lib.Join
import Derived.Lib.SlicesCompact
import Derived.Lib.RowBridge
namespace Go.Proofs.YtjmonkacijncbaaGreatDoor
open Go.RowKit
set_option linter.unusedVariables false

abbrev Bs := List UInt8
theorem str_list (l : Bs) : (str l).data.toList = l := by simp [str]
def textP (l : List Bs) : Bs := l.flatMap fun s => s ++ [10]
def cutNl : Bs → List Bs
  | [] => [[]]
  | c :: r => if c = 10 then [] :: cutNl r else
    match cutNl r with
    | x :: l => (c :: x) :: l
    | [] => [[c]]
def linesP (b : Bs) : List Bs := if b = [] then [] else cutNl (Lib.trimSuffix b [10])
def NoNl (l : List Bs) : Prop := ∀ y ∈ l, (10 : UInt8) ∉ y

theorem cutNl_cons (c : UInt8) (r : Bs) : cutNl (c :: r) = if c = 10 then [] :: cutNl r else
    match cutNl r with
    | x :: l => (c :: x) :: l
    | [] => [[c]] := rfl
theorem cutNl_ne (s : Bs) : cutNl s ≠ [] := by
  cases s with
  | nil => simp [cutNl]
  | cons c r =>
    unfold cutNl
    split
    · simp
    · split <;> simp
theorem cutNl_no (s : Bs) : NoNl (cutNl s) := by
  induction s with
  | nil => intro y hy; simp [cutNl] at hy; subst hy; simp
  | cons c r ih =>
    unfold cutNl
    split
    · intro y hy
      rcases List.mem_cons.1 hy with h | h
      · subst h; simp
      · exact ih y h
    · rename_i hc
      cases hr : cutNl r with
      | nil => exact absurd hr (cutNl_ne r)
      | cons x l =>
        rw [hr] at ih
        intro y hy
        rcases List.mem_cons.1 hy with h | h
        · subst h
          intro h10
          rcases List.mem_cons.1 h10 with h' | h'
          · exact hc h'.symm
          · exact ih x (by simp) h'
        · exact ih y (by simp [h])
theorem cut_text (s : Bs) : textP (cutNl s) = s ++ [10] := by
  induction s with
  | nil => rfl
  | cons c r ih =>
    unfold cutNl
    split
    · rename_i hc
      show ([] ++ [10]) ++ textP (cutNl r) = _
      rw [ih, hc]
      rfl
    · cases hr : cutNl r with
      | nil => exact absurd hr (cutNl_ne r)
      | cons x l =>
        rw [hr] at ih
        show ((c :: x) ++ [10]) ++ textP l = _
        have ih' : (x ++ [10]) ++ textP l = r ++ [10] := ih
        simp only [List.cons_append]
        rw [ih']
theorem cut_len (s : Bs) : (cutNl s).length = s.count 10 + 1 := by
  induction s with
  | nil => rfl
  | cons c r ih =>
    unfold cutNl
    split
    · rename_i hc
      subst hc
      rw [List.length_cons, ih, List.count_cons_self]
    · rename_i hc
      cases hr : cutNl r with
      | nil => exact absurd hr (cutNl_ne r)
      | cons x l =>
        rw [hr] at ih
        rw [List.count_cons_of_ne hc]
        exact ih
theorem cut_app (x t : Bs) (hx : (10 : UInt8) ∉ x) : cutNl (x ++ 10 :: t) = x :: cutNl t ∧ cutNl x = [x] := by
  induction x with
  | nil => exact ⟨by simp [cutNl], rfl⟩
  | cons c r ih =>
    have hc : c ≠ 10 := fun e => hx (by simp [e])
    obtain ⟨h1, h2⟩ := ih (fun e => hx (by simp [e]))
    refine ⟨?_, ?_⟩
    · show cutNl (c :: (r ++ 10 :: t)) = _
      rw [cutNl_cons, if_neg hc, h1]
    · rw [cutNl_cons, if_neg hc, h2]
theorem cut_join (x : Bs) (l : List Bs) (hx : (10 : UInt8) ∉ x) (hl : NoNl l) : cutNl (Lib.join (x :: l) [10]) = x :: l := by
  rw [Lib.join_cons]
  induction l generalizing x with
  | nil => simpa [Lib.joinTail] using (cut_app x [] hx).2
  | cons y l ih =>
    have e : x ++ Lib.joinTail [10] (y :: l) = x ++ 10 :: (y ++ Lib.joinTail [10] l) := by simp [Lib.joinTail]
    rw [e, (cut_app x _ hx).1, ih y (hl y (by simp)) (fun z hz => hl z (by simp [hz]))]
theorem text_join (x : Bs) (l : List Bs) : textP (x :: l) = Lib.join (x :: l) [10] ++ [10] := by
  rw [Lib.join_cons]
  induction l generalizing x with
  | nil => simp [textP, Lib.joinTail]
  | cons y l ih =>
    have e : x ++ Lib.joinTail [10] (y :: l) = x ++ 10 :: (y ++ Lib.joinTail [10] l) := by simp [Lib.joinTail]
    have h := ih y
    show (x ++ [10]) ++ textP (y :: l) = _
    rw [h, e]
    simp
theorem trim_nl (s : Bs) : Lib.trimSuffix (s ++ [10]) [10] = s := by
  unfold Lib.trimSuffix Lib.hasSuffix
  rw [if_pos (by simp)]
  simp
theorem lines_text (l : List Bs) (hl : NoNl l) : linesP (textP l) = l := by
  cases l with
  | nil => rfl
  | cons x l =>
    unfold linesP
    rw [text_join, if_neg (by simp), trim_nl]
    exact cut_join x l (hl x (by simp)) (fun z hz => hl z (by simp [hz]))
theorem lines_snoc (s : Bs) : linesP (s ++ [10]) = cutNl s := by
  unfold linesP
  rw [if_neg (by simp), trim_nl]
theorem lines_no (b : Bs) : NoNl (linesP b) := by
  unfold linesP
  split
  · intro y hy; cases hy
  · exact cutNl_no _
theorem join_cut (s : Bs) : Lib.join (cutNl s) [10] = s := by
  cases hr : cutNl s with
  | nil => exact absurd hr (cutNl_ne s)
  | cons x l =>
    have h1 := cut_text s
    rw [hr, text_join] at h1
    simpa using h1
theorem index_nl (x : Bs) (h : (10 : UInt8) ∉ x) : Lib.index x [10] = -1 ∧ ∀ t : Bs, Lib.index (x ++ 10 :: t) [10] = (x.length : Int) := by
  induction x with
  | nil => exact ⟨rfl, fun t => by simp [Lib.index]⟩
  | cons b x ih =>
    have hb : (10 : UInt8) ≠ b := fun e => h (by simp [e])
    obtain ⟨h1, h2⟩ := ih (fun e => h (by simp [e]))
    have hp : ∀ l : Bs, ([10] : Bs).isPrefixOf (b :: l) = false := fun l => by simp [List.isPrefixOf, hb]
    refine ⟨?_, fun t => ?_⟩
    · unfold Lib.index
      rw [hp, h1]
      rfl
    · show Lib.index (b :: (x ++ 10 :: t)) [10] = _
      unfold Lib.index
      rw [hp, h2]
      have : ((x.length : Int) == -1) = false := beq_eq_false_iff_ne.2 (by omega)
      simp [this]
theorem split_nl : ∀ (l : List Bs) (x : Bs), (10 : UInt8) ∉ x → (∀ y ∈ l, (10 : UInt8) ∉ y) → Lib.splitK [10] 0 (l.length) (x ++ Lib.joinTail [10] l) = x :: l := by
  intro l
  induction l with
  | nil => intro x _ _; simp [Lib.joinTail, Lib.splitK]
  | cons y l ih =>
    intro x hx hl
    have e : x ++ Lib.joinTail [10] (y :: l) = x ++ 10 :: (y ++ Lib.joinTail [10] l) := by simp [Lib.joinTail]
    rw [e, List.length_cons]
    unfold Lib.splitK
    have hi := (index_nl x hx).2 (y ++ Lib.joinTail [10] l)
    rw [hi]
    have : ((x.length : Int) == -1) = false := beq_eq_false_iff_ne.2 (by omega)
    rw [this, if_neg (by decide)]
    have e1 : (x ++ 10 :: (y ++ Lib.joinTail [10] l)).take ((x.length : Int).toNat + 0) = x := by simp
    have e2 : (x ++ 10 :: (y ++ Lib.joinTail [10] l)).drop ((x.length : Int).toNat + ([10] : Bs).length) = y ++ Lib.joinTail [10] l := by
      rw [Int.toNat_natCast, ← List.drop_drop, List.drop_left]
      rfl
    rw [e1, e2, ih y (hl y (by simp)) (fun z hz => hl z (by simp [hz]))]
theorem count_b (s : Bs) : Lib.countB (str s) (str [10]) = s.count 10 := by
  unfold Lib.countB
  rw [str_list, str_list, Lib.count_one]
theorem split_cut (s : Bs) : (Lib.splitB (str [10]) 0 (Lib.countB (str s) (str [10])) (str s)).map (fun x => x.data.toList) = cutNl s := by
  rw [Lib.splitB_data, str_list, str_list, count_b]
  cases hr : cutNl s with
  | nil => exact absurd hr (cutNl_ne s)
  | cons x l =>
    have h1 := join_cut s
    have h2 := cut_len s
    have h3 := cutNl_no s
    rw [hr, Lib.join_cons] at h1
    rw [hr, List.length_cons] at h2
    rw [hr] at h3
    have h4 : s.count 10 = l.length := by omega
    rw [h4, ← h1]
    exact split_nl l x (h3 x (by simp)) (fun y hy => h3 y (by simp [hy]))
theorem text_len (l : List Bs) (m : Nat) (h : ∀ x ∈ l, x.length ≤ m) : (textP l).length ≤ l.length * (m + 1) := by
  induction l with
  | nil => simp [textP]
  | cons a l ih =>
    have h1 := h a (by simp)
    have h2 := ih (fun x hx => h x (by simp [hx]))
    have e : textP (a :: l) = (a ++ [10]) ++ textP l := rfl
    have e2 : (a :: l).length = l.length + 1 := rfl
    rw [e, List.length_append, List.length_append, e2, Nat.succ_mul]
    have e3 : ([10] : Bs).length = 1 := rfl
    omega
theorem text_app (a b : List Bs) : textP (a ++ b) = textP a ++ textP b := by simp [textP]
theorem text_mem (l : List Bs) (x : Bs) (h : x ∈ l) : x.length + 1 ≤ (textP l).length := by
  induction l with
  | nil => cases h
  | cons a l ih =>
    have e : (textP (a :: l)).length = (a.length + 1) + (textP l).length := by
      show ((a ++ [10]) ++ textP l).length = _
      rw [List.length_append, List.length_append]
      rfl
    rcases List.mem_cons.1 h with rfl | h'
    · omega
    · have := ih h'
      omega
theorem text_many (l : List Bs) : l.length ≤ (textP l).length := by
  induction l with
  | nil => exact Nat.le_refl _
  | cons a l ih =>
    have e : (textP (a :: l)).length = (a.length + 1) + (textP l).length := by
      show ((a ++ [10]) ++ textP l).length = _
      rw [List.length_append, List.length_append]
      rfl
    rw [e, List.length_cons]
    omega
theorem cut_small (s : Bs) : (cutNl s).length ≤ s.length + 1 ∧ ∀ x ∈ cutNl s, x.length ≤ s.length := by
  have h := cut_text s
  have h1 := congrArg List.length h
  rw [List.length_append] at h1
  have h2 : ([10] : Bs).length = 1 := rfl
  refine ⟨?_, fun x hx => ?_⟩
  · have := text_many (cutNl s)
    omega
  · have := text_mem _ x hx
    omega
theorem trim_le (s : Bs) : (Lib.trimSuffix s [10]).length ≤ s.length := by
  unfold Lib.trimSuffix
  split
  · rw [List.length_take]; omega
  · exact Nat.le_refl _
theorem lines_small (s : Bs) : (linesP s).length ≤ s.length + 1 ∧ ∀ x ∈ linesP s, x.length ≤ s.length := by
  unfold linesP
  split
  · exact ⟨Nat.zero_le _, fun x hx => by cases hx⟩
  · have h := cut_small (Lib.trimSuffix s [10])
    have h2 := trim_le s
    exact ⟨by omega, fun x hx => by have := h.2 x hx; omega⟩
/-- A choice among lines. -/
def Picks (f : List Bs → List Bs) : Prop := ∀ L, (f L).length ≤ L.length ∧ ∀ s ∈ f L, s ∈ L
theorem picks_text {f : List Bs → List Bs} (hf : Picks f) (s : Bs) (h : s.length ≤ 1024) : (textP (f (linesP s))).length ≤ 2000000 := by
  obtain ⟨h1, h2⟩ := hf (linesP s)
  obtain ⟨h3, h4⟩ := lines_small s
  have h5 := text_len (f (linesP s)) 1024 (fun x hx => Nat.le_trans (h4 x (h2 x hx)) h)
  have h6 : (f (linesP s)).length ≤ 1025 := by omega
  have h7 := Nat.mul_le_mul_right (1024 + 1) h6
  omega
theorem picks_take (k : Nat) : Picks (fun L => L.take k) := fun L => ⟨by simp; omega, fun s hs => List.mem_of_mem_take hs⟩
/-- The last k lines. -/
def tailL (k : Nat) (L : List Bs) : List Bs := L.drop (L.length - min k L.length)
theorem picks_tail (k : Nat) : Picks (tailL k) := fun L => ⟨by simp [tailL], fun s hs => List.mem_of_mem_drop hs⟩
theorem picks_rev : Picks List.reverse := fun L => ⟨by simp, fun s hs => by simpa using hs⟩
theorem picks_filter (p : Bs → Bool) : Picks (fun L => L.filter p) := fun L => ⟨List.length_filter_le _ _, fun s hs => (List.mem_filter.1 hs).1⟩
theorem picks_sort (le : Bs → Bs → Bool) : Picks (fun L => L.mergeSort le) := fun L => ⟨by simp, fun s hs => by simpa using hs⟩
theorem mem_compactUpTo (d : Array Bs) : ∀ m, m ≤ d.size → ∀ y ∈ Lib.compactUpTo d m, y ∈ d.toList := by
  intro m hm y hy
  unfold Lib.compactUpTo at hy
  obtain ⟨i, hi, rfl⟩ := List.mem_map.1 hy
  have hi' : i < m := by have := (List.mem_filter.1 hi).1; simpa using this
  have : i < d.size := by omega
  rw [getElem!_pos d i this]
  simp
theorem picks_compact : Picks Lib.compact := fun L => ⟨Lib.compact_length_le L, fun s hs => by
  have := mem_compactUpTo L.toArray L.length (by simp) s hs
  simpa using this⟩
end Go.Proofs.YtjmonkacijncbaaGreatDoor
