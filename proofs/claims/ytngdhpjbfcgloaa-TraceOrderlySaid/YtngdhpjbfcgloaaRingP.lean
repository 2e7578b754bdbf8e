/- A ring of locks by breadth, in plain words. Plain theorems, no condition. -/
import Derived.Test.YtngdhpjbfcgloaaReachPlain
import Derived.Lib.SlicesCompact
namespace Go.Proofs.Ytngdhpjbfcgloaa
open Go.RowKit
set_option linter.unusedVariables false

theorem mem_upTo (d : Array Int) : ∀ m, m ≤ d.size → ∀ y ∈ Lib.compactUpTo d m, y ∈ d.toList := by
  intro m
  induction m with
  | zero => intro _ y hy; simp [Lib.compactUpTo] at hy
  | succ m ih =>
    intro hm y hy
    rw [Lib.compactUpTo_succ] at hy
    rcases List.mem_append.1 hy with hy | hy
    · exact ih (by omega) y hy
    · split at hy
      · rw [List.mem_singleton] at hy
        subst hy
        rw [getElem!_pos d m (by omega)]
        exact Array.getElem_mem_toList (by omega)
      · cases hy
theorem mem_compact (l : List Int) (y : Int) (h : y ∈ Lib.compact l) : y ∈ l := by
  have := mem_upTo l.toArray l.length (by simp) y h
  simpa using this
/-- The locks behind one, rising, each once. -/
def nextL (es : List EdgeD) (x : Nat) : List Nat := (Lib.compact (((outs es x).map fun (k : Nat) => (k : Int)).mergeSort fun a b => decide (a ≤ b))).map Int.toNat
theorem nextL_mem (es : List EdgeD) (x y : Nat) (h : y ∈ nextL es x) : (x, y) ∈ es := by
  obtain ⟨z, hz, rfl⟩ := List.mem_map.1 h
  have := mem_compact _ _ hz
  rw [List.mem_mergeSort] at this
  obtain ⟨k, hk, rfl⟩ := List.mem_map.1 this
  unfold outs at hk
  obtain ⟨e, he, rfl⟩ := List.mem_map.1 hk
  obtain ⟨he, hx⟩ := List.mem_filter.1 he
  have hx : e.1 = x := by simpa using hx
  subst hx
  simpa using he
theorem nextL_ints (es : List EdgeD) (x : Nat) : (nextL es x).map (fun (k : Nat) => (k : Int)) = Lib.compact (((outs es x).map fun (k : Nat) => (k : Int)).mergeSort fun a b => decide (a ≤ b)) := by
  unfold nextL
  rw [List.map_map]
  refine (List.map_congr_left ?_).trans (List.map_id _)
  intro z hz
  have := mem_compact _ _ hz
  rw [List.mem_mergeSort] at this
  obtain ⟨k, hk, rfl⟩ := List.mem_map.1 this
  simp
abbrev FrM := Nat → Option Int
def scanR (start p : Nat) : List Nat → FrM → List Nat → FrM × List Nat × Bool
  | [], f, w => (f, w, false)
  | n :: l, f, w => if (f n).isSome = true then scanR start p l f w else if n = start then (updN f n (some (p : Int)), w, true) else scanR start p l (updN f n (some (p : Int))) (w ++ [n])
def bfsR (N : Nat → List Nat) (start : Nat) : Nat → Nat → FrM → List Nat → Option FrM
  | 0, _, _, _ => none
  | F + 1, k, f, w => if k < w.length then (if (scanR start (w.getD k 0) (N (w.getD k 0)) f w).2.2 = true then some (scanR start (w.getD k 0) (N (w.getD k 0)) f w).1 else bfsR N start F (k + 1) (scanR start (w.getD k 0) (N (w.getD k 0)) f w).1 (scanR start (w.getD k 0) (N (w.getD k 0)) f w).2.1) else none
def backR (f : FrM) (start : Nat) : Nat → Nat → List Nat → List Nat
  | 0, _, r => r
  | F + 1, x, r => if x = start then r ++ [x] else backR f start F ((f x).getD 0).toNat (r ++ [x])
def ringR (N : Nat → List Nat) : Nat → Nat → List Nat
  | 0, _ => []
  | F + 1, start => match bfsR N start 66 0 (fun _ => none) [start] with
    | some f => (backR f start 66 ((f start).getD 0).toNat []).reverse
    | none => ringR N F (start + 1)
theorem nodup_le : ∀ (n : Nat) (l : List Nat), l.Nodup → (∀ x ∈ l, x < n) → l.length ≤ n := by
  intro n
  induction n with
  | zero =>
    intro l _ h
    cases l with
    | nil => simp
    | cons a l => exact absurd (h a (by simp)) (by omega)
  | succ n ih =>
    intro l hn h
    have h1 := ih (l.erase n) (hn.erase n) (fun x hx => by
      have h2 := h x (List.mem_of_mem_erase hx)
      have h3 : x ≠ n := fun e => by subst e; exact hn.not_mem_erase hx
      omega)
    rw [List.length_erase] at h1
    split at h1 <;> omega
/-- What holds of the way and of where each came from. -/
structure BInv (N : Nat → List Nat) (start : Nat) (f : FrM) (w : List Nat) : Prop where
  first : w[0]? = some start
  nodup : w.Nodup
  small : ∀ x ∈ w, x < 64
  met : ∀ n, (f n).isSome = true → n ∈ w ∧ n ≠ start
  back : ∀ i x, 0 < i → w[i]? = some x → ∃ (j y : Nat), j < i ∧ w[j]? = some y ∧ f x = some (y : Int) ∧ x ∈ N y
/-- .. when the start has been come to again. -/
structure FInv (N : Nat → List Nat) (start : Nat) (f : FrM) (w : List Nat) : Prop where
  first : w[0]? = some start
  nodup : w.Nodup
  small : ∀ x ∈ w, x < 64
  back : ∀ i x, 0 < i → w[i]? = some x → ∃ (j y : Nat), j < i ∧ w[j]? = some y ∧ f x = some (y : Int) ∧ x ∈ N y
  last : ∃ (j y : Nat), w[j]? = some y ∧ f start = some (y : Int) ∧ start ∈ N y
section
variable {N : Nat → List Nat} {start : Nat} {f : FrM} {w : List Nat}
theorem BInv.begin (h : start < 64) : BInv N start (fun _ => none) [start] where
  first := rfl
  nodup := by simp
  small := by simpa using h
  met := by simp
  back := by
    intro i x hi hx
    have := (List.getElem?_eq_some_iff.1 hx).1
    simp at this
    omega
theorem BInv.len (h : BInv N start f w) : w.length ≤ 64 := nodup_le 64 w h.nodup h.small
theorem FInv.len (h : FInv N start f w) : w.length ≤ 64 := nodup_le 64 w h.nodup h.small
theorem BInv.fresh (h : BInv N start f w) {n : Nat} (hf : (f n).isSome = false) (hn : n ≠ start) : n ∉ w := by
  intro hm
  obtain ⟨i, hi⟩ := List.mem_iff_getElem?.1 hm
  rcases Nat.eq_zero_or_pos i with rfl | hp
  · rw [h.first] at hi
    exact hn (Option.some.inj hi).symm
  · obtain ⟨_, _, _, _, h3, _⟩ := h.back i n hp hi
    rw [h3] at hf
    cases hf
theorem BInv.more (h : BInv N start f w) {n p : Nat} (hf : (f n).isSome = false) (hn : n ≠ start) (hp : p ∈ w) (hm : n ∈ N p) (h64 : n < 64) : BInv N start (updN f n (some (p : Int))) (w ++ [n]) where
  first := by
    have := (List.getElem?_eq_some_iff.1 h.first).1
    rw [List.getElem?_append_left this]
    exact h.first
  nodup := by
    rw [List.nodup_append]
    refine ⟨h.nodup, by simp, ?_⟩
    intro a ha b hb
    rw [List.mem_singleton] at hb
    subst hb
    intro e
    subst e
    exact h.fresh hf hn ha
  small := by
    intro x hx
    rcases List.mem_append.1 hx with hx | hx
    · exact h.small x hx
    · rw [List.mem_singleton] at hx
      subst hx
      exact h64
  met := by
    intro m hm
    by_cases e : m = n
    · subst e
      exact ⟨by simp, hn⟩
    · rw [updN_other f n m _ e] at hm
      exact ⟨List.mem_append_left _ (h.met m hm).1, (h.met m hm).2⟩
  back := by
    intro i x hi hx
    by_cases hl : i < w.length
    · rw [List.getElem?_append_left hl] at hx
      obtain ⟨j, y, h1, h2, h3, h4⟩ := h.back i x hi hx
      refine ⟨j, y, h1, ?_, ?_, h4⟩
      · rw [List.getElem?_append_left (by omega)]
        exact h2
      · rw [updN_other f n x]
        · exact h3
        · rintro rfl
          rw [h3] at hf
          cases hf
    · have hlt := (List.getElem?_eq_some_iff.1 hx).1
      rw [List.length_append, List.length_singleton] at hlt
      have e : i = w.length := by omega
      subst e
      rw [List.getElem?_append_right (Nat.le_refl _), Nat.sub_self] at hx
      have e : n = x := Option.some.inj hx
      subst e
      obtain ⟨j, hj⟩ := List.mem_iff_getElem?.1 hp
      have hjl := (List.getElem?_eq_some_iff.1 hj).1
      refine ⟨j, p, hjl, ?_, updN_same f n _, hm⟩
      rw [List.getElem?_append_left hjl]
      exact hj
theorem BInv.found (h : BInv N start f w) {p : Nat} (hp : p ∈ w) (hm : start ∈ N p) : FInv N start (updN f start (some (p : Int))) w where
  first := h.first
  nodup := h.nodup
  small := h.small
  back := by
    intro i x hi hx
    obtain ⟨j, y, h1, h2, h3, h4⟩ := h.back i x hi hx
    refine ⟨j, y, h1, h2, ?_, h4⟩
    rw [updN_other f start x]
    · exact h3
    · exact (h.met x (by rw [h3]; rfl)).2
  last := by
    obtain ⟨j, hj⟩ := List.mem_iff_getElem?.1 hp
    exact ⟨j, p, hj, updN_same f start _, hm⟩
theorem back_ok (h : FInv N start f w) : ∀ (j x F : Nat) (r : List Nat), w[j]? = some x → j < F → ∃ t, backR f start F x r = r ++ t ∧ t[0]? = some x ∧ t.getLast? = some start ∧ (∀ i a b, t[i]? = some a → t[i + 1]? = some b → a ∈ N b) ∧ t.Nodup ∧ ∀ y ∈ t, y ∈ w.take (j + 1) := by
  intro j
  induction j using Nat.strongRecOn with
  | _ j ih =>
    intro x F r hx hF
    obtain ⟨F, rfl⟩ : ∃ F', F = F' + 1 := ⟨F - 1, by omega⟩
    have hjl := (List.getElem?_eq_some_iff.1 hx).1
    have hxt : x ∈ w.take (j + 1) := by
      rw [List.take_succ_eq_append_getElem hjl]
      have := (List.getElem?_eq_some_iff.1 hx).2
      simp [this]
    unfold backR
    by_cases e : x = start
    · rw [if_pos e]
      refine ⟨[x], rfl, rfl, by rw [e]; rfl, ?_, by simp, ?_⟩
      · intro i a b _ hb
        have := (List.getElem?_eq_some_iff.1 hb).1
        simp at this
      · intro y hy
        rw [List.mem_singleton] at hy
        subst hy
        exact hxt
    · rw [if_neg e]
      have hj : 0 < j := by
        rcases Nat.eq_zero_or_pos j with rfl | hj
        · rw [h.first] at hx
          exact absurd (Option.some.inj hx).symm e
        · exact hj
      obtain ⟨i, y, h1, h2, h3, h4⟩ := h.back j x hj hx
      rw [h3]
      show ∃ t, backR f start F (y : Int).toNat (r ++ [x]) = _ ∧ _
      rw [Int.toNat_natCast]
      obtain ⟨t, e1, e2, e3, e4, e5, e6⟩ := ih i h1 y F (r ++ [x]) h2 (by omega)
      refine ⟨x :: t, by rw [e1]; simp, rfl, ?_, ?_, ?_, ?_⟩
      · cases t with
        | nil => cases e2
        | cons a t => rw [List.getLast?_cons_cons]; exact e3
      · intro k a b ha hb
        cases k with
        | zero =>
          have : x = a := Option.some.inj ha
          subst this
          have hb : t[0]? = some b := hb
          rw [e2] at hb
          have : y = b := Option.some.inj hb
          subst this
          exact h4
        | succ k => exact e4 k a b ha hb
      · rw [List.nodup_cons]
        refine ⟨fun hm => ?_, e5⟩
        have := e6 x hm
        obtain ⟨k, hk⟩ := List.mem_iff_getElem?.1 this
        rw [List.getElem?_take] at hk
        split at hk
        · exact List.pairwise_iff_getElem.1 h.nodup k j (List.getElem?_eq_some_iff.1 hk).1 hjl (by omega) (by rw [(List.getElem?_eq_some_iff.1 hk).2, (List.getElem?_eq_some_iff.1 hx).2])
        · cases hk
      · intro z hz
        rcases List.mem_cons.1 hz with rfl | hz
        · exact hxt
        · exact List.mem_of_mem_take (e6 z hz) |> fun _ => (List.take_subset_take_left w (show i + 1 ≤ j + 1 by omega)) (e6 z hz)
/-- A ring: each lock was taken while the one ahead was held, and none is there twice. -/
def RingOk (N : Nat → List Nat) (r : List Nat) : Prop := r.Nodup ∧ (∀ x ∈ r, x < 64) ∧ ∀ i a b, r[i]? = some a → r[(i + 1) % r.length]? = some b → b ∈ N a
theorem ring_of (h : FInv N start f w) : RingOk N (backR f start 66 ((f start).getD 0).toNat []).reverse := by
  obtain ⟨j, y, h1, h2, h3⟩ := h.last
  have hjl := (List.getElem?_eq_some_iff.1 h1).1
  have := h.len
  rw [h2]
  show RingOk N (backR f start 66 (y : Int).toNat []).reverse
  rw [Int.toNat_natCast]
  obtain ⟨t, e1, e2, e3, e4, e5, e6⟩ := back_ok h j y 66 [] h1 (by omega)
  rw [e1, List.nil_append]
  have ht : 0 < t.length := (List.getElem?_eq_some_iff.1 e2).1
  refine ⟨List.pairwise_reverse.2 (e5.imp fun h => h.symm), fun x hx => h.small x (List.mem_of_mem_take (e6 x (List.mem_reverse.1 hx))), ?_⟩
  intro i a b ha hb
  have hi := (List.getElem?_eq_some_iff.1 ha).1
  rw [List.length_reverse] at hi hb
  rw [List.getElem?_reverse hi] at ha
  by_cases hl : i + 1 < t.length
  · rw [Nat.mod_eq_of_lt hl, List.getElem?_reverse hl] at hb
    exact e4 (t.length - 1 - (i + 1)) b a hb (by rw [show t.length - 1 - (i + 1) + 1 = t.length - 1 - i by omega]; exact ha)
  · have e : i + 1 = t.length := by omega
    rw [e, Nat.mod_self, List.getElem?_reverse ht] at hb
    rw [show t.length - 1 - i = 0 by omega, e2] at ha
    rw [List.getLast?_eq_getElem?] at e3
    rw [Nat.sub_zero, e3] at hb
    have := Option.some.inj ha
    have := Option.some.inj hb
    subst_vars
    exact h3
end
theorem two_ring : ringR (fun x => if x = 1 then [2] else if x = 2 then [1] else []) 64 0 = [1, 2] := by decide +kernel
theorem ring_two : ringR (nextL [(1, 2), (2, 1)]) 64 0 = [1, 2] := by
  have e : nextL [(1, 2), (2, 1)] = fun x => if x = 1 then [2] else if x = 2 then [1] else [] := by
    funext x
    unfold nextL outs
    by_cases h1 : x = 1
    · subst h1
      simp [Lib.compact, Lib.compactUpTo, List.range_succ, Lib.keeps]
    · by_cases h2 : x = 2
      · subst h2
        simp [Lib.compact, Lib.compactUpTo, List.range_succ, Lib.keeps]
      · have a1 : ¬ 1 = x := fun e => h1 e.symm
        have a2 : ¬ 2 = x := fun e => h2 e.symm
        simp [h1, h2, a1, a2, Lib.compact, Lib.compactUpTo]
  rw [e]
  exact two_ring
end Go.Proofs.Ytngdhpjbfcgloaa
