/- Lines put together are the lines again; the contracts of strings.Join on lines, and of Read behind it. -/
import Derived.Test.YtikbfmjhmjkkgaaDoorAmRead
import Derived.Lib.SplitLaws
namespace Go.Proofs.YtikbfmjhmjkkgaaDoor
open Go.RowKit Go.Maps
set_option linter.unusedVariables false

theorem index_nl (x : Bs) (h : (10 : UInt8) ∉ x) : Lib.index x [10] = -1 ∧ ∀ t : Bs, Lib.index (x ++ 10 :: t) [10] = (x.length : Int) := by
  induction x with
  | nil => exact ⟨rfl, fun t => by simp [Lib.index]⟩
  | cons b x ih =>
    have hb : (10 : UInt8) ≠ b := fun e => h (by simp [e])
    obtain ⟨h1, h2⟩ := ih (fun e => h (by simp [e]))
    have hp : ∀ l : Bs, ([10] : Bs).isPrefixOf (b :: l) = false := fun l => by simp [List.isPrefixOf, hb]
    refine ⟨?_, fun t => ?_⟩
    · unfold Lib.index
      rw [hp, h1]
      rfl
    · show Lib.index (b :: (x ++ 10 :: t)) [10] = _
      unfold Lib.index
      rw [hp, h2]
      have : ((x.length : Int) == -1) = false := beq_eq_false_iff_ne.2 (by omega)
      simp [this]
theorem split_nl : ∀ (l : List Bs) (x : Bs), (10 : UInt8) ∉ x → (∀ y ∈ l, (10 : UInt8) ∉ y) → Lib.splitK [10] 0 (l.length) (x ++ Lib.joinTail [10] l) = x :: l := by
  intro l
  induction l with
  | nil => intro x _ _; simp [Lib.joinTail, Lib.splitK]
  | cons y l ih =>
    intro x hx hl
    have e : x ++ Lib.joinTail [10] (y :: l) = x ++ 10 :: (y ++ Lib.joinTail [10] l) := by simp [Lib.joinTail]
    rw [e, List.length_cons]
    unfold Lib.splitK
    have hi := (index_nl x hx).2 (y ++ Lib.joinTail [10] l)
    rw [hi]
    have : ((x.length : Int) == -1) = false := beq_eq_false_iff_ne.2 (by omega)
    rw [this, if_neg (by decide)]
    have e1 : (x ++ 10 :: (y ++ Lib.joinTail [10] l)).take ((x.length : Int).toNat + 0) = x := by simp
    have e2 : (x ++ 10 :: (y ++ Lib.joinTail [10] l)).drop ((x.length : Int).toNat + ([10] : Bs).length) = y ++ Lib.joinTail [10] l := by
      rw [Int.toNat_natCast, ← List.drop_drop, List.drop_left]
      rfl
    rw [e1, e2, ih y (hl y (by simp)) (fun z hz => hl z (by simp [hz]))]
theorem count_nl : ∀ (l : List Bs) (x : Bs), (10 : UInt8) ∉ x → (∀ y ∈ l, (10 : UInt8) ∉ y) → (x ++ Lib.joinTail [10] l).count 10 = l.length := by
  intro l
  induction l with
  | nil => intro x hx _; simp [Lib.joinTail, List.count_eq_zero.2 hx]
  | cons y l ih =>
    intro x hx hl
    have e : x ++ Lib.joinTail [10] (y :: l) = x ++ 10 :: (y ++ Lib.joinTail [10] l) := by simp [Lib.joinTail]
    rw [e, List.count_append, List.count_cons_self, ih y (hl y (by simp)) (fun z hz => hl z (by simp [hz])), List.count_eq_zero.2 hx, List.length_cons]
    omega
theorem lines_join (x : Bs) (l : List Bs) (hx : (10 : UInt8) ∉ x) (hl : ∀ y ∈ l, (10 : UInt8) ∉ y) : linesOf (Lib.join (x :: l) [10]) = x :: l := by
  unfold linesOf
  rw [Lib.splitB_data, str_list, str_list, Lib.join_cons]
  have hc : Lib.countB (str (x ++ Lib.joinTail [10] l)) (str [10]) = l.length := by
    have := Lib.count_one 10 (x ++ Lib.joinTail [10] l)
    unfold Lib.countB
    rw [str_list, str_list, this]
    exact count_nl l x hx hl
  rw [hc]
  exact split_nl l x hx hl
theorem join_len (x : Bs) (l : List Bs) : (Lib.join (x :: l) [10]).length = x.length + (l.length + Lib.lens l) := by
  rw [Lib.join_cons, List.length_append, Lib.joinTail_length]
  simp
theorem lens_le (l : List Bs) (m : Nat) (h : ∀ x ∈ l, x.length ≤ m) : Lib.lens l ≤ l.length * m := by
  induction l with
  | nil => simp [Lib.lens]
  | cons a l ih =>
    have h1 := h a (by simp)
    have h2 := ih (fun x hx => h x (by simp [hx]))
    simp only [Lib.lens, List.map_cons, List.sum_cons, List.length_cons] at h2 ⊢
    rw [Nat.succ_mul]
    omega
/-- strings.Join on strings that are read. -/
theorem join_any (L : List Bs) (A : Option Addr) (n c B : Nat) (w : World) (hr : Reads w B 1 A n (strsV L)) (hB : B ≤ w.heap.size) (hn : L.length = n) (hc : n ≤ c) (h1 : 0 < n) (hl : (Lib.join L [10]).length ≤ 100000) (hm : n ≤ 100000) :
    Calls Tryd.prog 9 #[.slice A n c, .string (str [10])] w fun e w' => e = .returned (.string (str (Lib.join L [10]))) ∧ Ext w w' := by
  subst hn
  obtain ⟨b, off, rfl, hb, hcell⟩ := hr.at1 h1
  have hx : (L.map str).map (·.data.toList) = L := by rw [List.map_map]; exact (List.map_congr_left (fun x _ => str_list x)).trans (List.map_id _)
  have := Tryd.strings_Join b off c (L.map str) (str [10]) w (fun j x hj => by
      rw [List.getElem?_map] at hj
      have hlt : j < L.length := by
        cases h : L[j]? with
        | none => rw [h] at hj; cases hj
        | some y => exact (List.getElem?_eq_some_iff.1 h).1
      rw [List.getElem?_eq_getElem hlt] at hj
      injection hj with hj
      rw [hcell j hlt, ← hj]
      simp [strsV]) (by omega) (by simp; omega) (by simpa using hc) (by rw [hx, str_list]; omega)
  rw [hx, str_list, List.length_map] at this
  exact this
end Go.Proofs.YtikbfmjhmjkkgaaDoor
