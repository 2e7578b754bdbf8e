/- What stands in the whole: the laws of the bytes. Plain theorems. -/
import Derived.Test.YtljlniehbenefaaDoorBdByP
namespace Go.Proofs.YtljlniehbenefaaDoor
open Go.RowKit
set_option linter.unusedVariables false

theorem splice_get {α : Type} (L : List α) (off : Nat) (cs : List α) (h : off + cs.length ≤ L.length) (i : Nat) : (splice L off cs)[i]? = if off ≤ i ∧ i < off + cs.length then cs[i - off]? else L[i]? := by
  unfold splice
  have hl : (L.take off).length = off := by rw [List.length_take]; omega
  by_cases h1 : i < off
  · rw [if_neg (by omega), List.getElem?_append_left (by rw [hl]; exact h1), List.getElem?_take_of_lt h1]
  · rw [List.getElem?_append_right (by rw [hl]; omega), hl]
    by_cases h2 : i < off + cs.length
    · rw [if_pos ⟨by omega, h2⟩, List.getElem?_append_left (by omega)]
    · rw [if_neg (by omega), List.getElem?_append_right (by omega), List.getElem?_drop]
      congr 1
      omega
theorem wordsP_len {at_ : Bs → Option Int} {beg : Nat} : ∀ (l : List NeD) (out W : List Nat), wordsP at_ beg l out = some W → W.length = out.length := by
  intro l
  induction l with
  | nil => intro out W h; injection h with h; rw [h]
  | cons n l ih =>
    intro out W h
    cases ha : at_ n.name with
    | none => rw [wordsP_none ha] at h; cases h
    | some t => rw [wordsP_some ha] at h; rw [ih _ _ h, List.length_set]
/-- A word that nobody needs stays. -/
theorem wordsP_keep {at_ : Bs → Option Int} {beg : Nat} : ∀ (l : List NeD) (out W : List Nat) (k : Nat), wordsP at_ beg l out = some W → (∀ n ∈ l, n.pos.toNat / 4 ≠ k) → W[k]? = out[k]? := by
  intro l
  induction l with
  | nil => intro out W k h _; injection h with h; rw [h]
  | cons n l ih =>
    intro out W k h hk
    cases ha : at_ n.name with
    | none => rw [wordsP_none ha] at h; cases h
    | some t =>
      rw [wordsP_some ha] at h
      rw [ih _ _ k h (fun x hx => hk x (by simp [hx])), List.getElem?_set_ne (hk n (by simp))]
/-- A word that is needed is told. -/
theorem wordsP_fill {at_ : Bs → Option Int} {beg : Nat} : ∀ (l : List NeD) (out W : List Nat), wordsP at_ beg l out = some W → l.Pairwise (fun a b => a.pos < b.pos) → (∀ n ∈ l, 0 ≤ n.pos ∧ n.pos < 4 * (out.length : Int) ∧ n.pos % 4 = 0) →
    ∀ n ∈ l, ∃ t, at_ n.name = some t ∧ W[n.pos.toNat / 4]? = some (placeI (out.getD (n.pos.toNat / 4) 0 : Nat) n.kind (beg + n.pos) t).toNat := by
  intro l
  induction l with
  | nil => intro out W _ _ _ n hn; cases hn
  | cons a l ih =>
    intro out W h hp hb n hn
    cases ha : at_ a.name with
    | none => rw [wordsP_none ha] at h; cases h
    | some t =>
      rw [wordsP_some ha] at h
      rw [List.pairwise_cons] at hp
      rcases List.mem_cons.1 hn with rfl | hn
      · refine ⟨t, ha, ?_⟩
        have hk := wordsP_keep l _ W (n.pos.toNat / 4) h (fun x hx => by
          have h1 := hp.1 x hx
          have h2 := hb n (by simp)
          have h3 := hb x (by simp [hx])
          omega)
        have h2 := hb n (by simp)
        rw [hk, List.getElem?_set_self (by omega)]
      · obtain ⟨t', h1, h2⟩ := ih _ W h hp.2 (fun x hx => by rw [List.length_set]; exact hb x (by simp [hx])) n hn
        refine ⟨t', h1, ?_⟩
        have h3 := hp.1 n hn
        have h4 := hb n (by simp [hn])
        have h5 := hb a (by simp)
        have e : ∀ y : Nat, (out.set (a.pos.toNat / 4) y).getD (n.pos.toNat / 4) 0 = out.getD (n.pos.toNat / 4) 0 := fun y => by
          rw [List.getD_eq_getElem?_getD, List.getD_eq_getElem?_getD, List.getElem?_set_ne (by omega)]
        rw [h2, e]
theorem cAt_le_end (os : List ObX) (i : Nat) (h : i < os.length) : cAt os (i + 1) ≤ 16 + cLen os := by
  have := sum_take_le (fun p : ObX => 4 * p.1.code.length) os (i + 1)
  unfold cAt cLen
  omega
theorem cAt_nx (os : List ObX) (i : Nat) (h : i < os.length) : cAt os (i + 1) = cAt os i + 4 * os[i].1.code.length := by unfold cAt; rw [cLen_next os i h]; omega
theorem dAt_nx (os : List ObX) (i : Nat) (h : i < os.length) : dAt os i + os[i].1.data.length ≤ dAt os (i + 1) := by
  have := (upN_bd os[i].1.data.length 4 (by omega)).1
  unfold dAt
  rw [dLen_next os i h]
  omega
theorem dAt_lo (os : List ObX) (i : Nat) : 16 + cLen os ≤ dAt os i := by
  have := (upN_bd (16 + cLen os) 16 (by omega)).1
  unfold dAt dBeg
  omega
theorem bytesG_spec (at_ : Bs → Option Int) (os : List ObX) : ∀ (m i : Nat) (bs bs' : Bs), os.length - i = m → i ≤ os.length → bs.length = endL os → bytesG at_ (cAt os) (dAt os) (os.drop i) i bs = some bs' →
    bs'.length = endL os ∧ (∀ x, (x < cAt os i ∨ (16 + cLen os ≤ x ∧ x < dAt os i)) → bs'[x]? = bs[x]?) ∧ ∀ j (hj : j < os.length), i ≤ j → ∃ W, wordsP at_ (cAt os j) os[j].1.needs os[j].1.code = some W ∧ (∀ y, y < 4 * W.length → bs'[cAt os j + y]? = (W.flatMap w4)[y]?) ∧ (∀ y, y < os[j].1.data.length → bs'[dAt os j + y]? = os[j].1.data[y]?) := by
  intro m
  induction m with
  | zero =>
    intro i bs bs' hm hi hl h
    rw [List.drop_of_length_le (by omega)] at h
    injection h with h
    subst h
    exact ⟨hl, fun _ _ => rfl, fun j hj hij => absurd hj (by omega)⟩
  | succ m ih =>
    intro i bs bs' hm hi hl h
    have hi' : i < os.length := by omega
    rw [bytesG_drop _ _ _ _ _ hi'] at h
    cases hW : wordsP at_ (cAt os i) os[i].1.needs os[i].1.code with
    | none => rw [hW] at h; cases h
    | some W =>
      rw [hW] at h
      have hwl := wordsP_len _ _ _ hW
      have hcf := code_fits os i hi'
      have hdf := data_fits os i hi'
      have hl1 : (splice bs (cAt os i) (W.flatMap w4)).length = endL os := by rw [length_splice _ _ _ (by rw [w4_flat_len, hl, hwl]; exact hcf), hl]
      have hl2 : (splice (splice bs (cAt os i) (W.flatMap w4)) (dAt os i) os[i].1.data).length = endL os := by rw [length_splice _ _ _ (by rw [hl1]; exact hdf), hl1]
      obtain ⟨r1, r2, r3⟩ := ih (i + 1) _ bs' (by omega) (by omega) hl2 h
      have n1 := cAt_nx os i hi'
      have n2 := dAt_nx os i hi'
      have n3 := cAt_le_end os i hi'
      have n4 := dAt_lo os i
      have gA := splice_get bs (cAt os i) (W.flatMap w4) (by rw [w4_flat_len, hl, hwl]; exact hcf)
      have gB := splice_get (splice bs (cAt os i) (W.flatMap w4)) (dAt os i) os[i].1.data (by rw [hl1]; exact hdf)
      rw [w4_flat_len, hwl] at gA
      refine ⟨r1, fun x hx => ?_, fun j hj hij => ?_⟩
      · rw [r2 x (by omega), gB, if_neg (by omega), gA, if_neg (by omega)]
      · rcases Nat.eq_or_lt_of_le hij with e | hlt
        · subst e
          refine ⟨W, hW, fun y hy => ?_, fun y hy => ?_⟩
          · rw [hwl] at hy
            rw [r2 _ (by omega), gB, if_neg (by omega), gA, if_pos (by omega)]
            congr 1
            omega
          · rw [r2 _ (by omega), gB, if_pos (by omega)]
            congr 1
            omega
        · exact r3 j hj hlt
theorem bytesP_spec {os : List ObX} {S : PlS} {bs : Bs} (h : bytesP os S = some bs) (j : Nat) (hj : j < os.length) : bs.length = endL os ∧ ∃ W, wordsP (atF S.out) (cAt os j) os[j].1.needs os[j].1.code = some W ∧ W.length = os[j].1.code.length ∧ (∀ y, y < 4 * W.length → bs[cAt os j + y]? = (W.flatMap w4)[y]?) ∧ (∀ y, y < os[j].1.data.length → bs[dAt os j + y]? = os[j].1.data[y]?) := by
  obtain ⟨h1, -, h3⟩ := bytesG_spec (atF S.out) os os.length 0 _ bs (by omega) (by omega) (by rw [List.length_replicate]) h
  obtain ⟨W, w1, w2, w3⟩ := h3 j hj (Nat.zero_le _)
  exact ⟨h1, W, w1, wordsP_len _ _ _ w1, w2, w3⟩
/-- The four bytes of a word. -/
theorem flat4 : ∀ (W : List Nat) (k b : Nat) (hk : k < W.length) (hb : b < 4), (W.flatMap w4)[4 * k + b]? = (w4 W[k])[b]? := by
  intro W
  induction W with
  | nil => intro k b hk; simp at hk
  | cons a W ih =>
    intro k b hk hb
    rw [List.flatMap_cons]
    cases k with
    | zero => rw [List.getElem?_append_left (by rw [w4_len]; omega), Nat.mul_zero, Nat.zero_add]; rfl
    | succ k =>
      rw [List.getElem?_append_right (by rw [w4_len]; omega), w4_len, show 4 * (k + 1) + b - 4 = 4 * k + b by omega]
      exact ih k b (by simpa using hk) hb
end Go.Proofs.YtljlniehbenefaaDoor
