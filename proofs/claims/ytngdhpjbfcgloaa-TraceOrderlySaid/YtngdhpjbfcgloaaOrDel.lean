/- slices.Delete of one number, in place, on a row of the call's own; slices.Index and Clone on numbers. -/
import Derived.Test.YtngdhpjbfcgloaaNext
import Derived.WalkKit
import Derived.WalkSpells
import Derived.Deep.QuietTactic
import Derived.BigQuiet
import Derived.Deep.DeepCutAuto
import Derived.Test.YtngdhpjbfcgloaaFlat
import Derived.Deep.RegionLaw
import Derived.Lib.SliceRun
import Derived.Deep.Upon
import Derived.Deep.MidRow
namespace Go.Proofs.Ytngdhpjbfcgloaa
open Go.RowKit
set_option linter.unusedVariables false

def over (cs : Array Value) : Nat → List Value → Array Value
  | _, [] => cs
  | o, v :: r => over (cs.setIfInBounds o v) (o + 1) r
theorem Blk.sets {g : Nat} {t : TypeId} : ∀ (vs : List Value) (o : Nat) {w : World} {cs : Array Value}, Blk w g t cs → Blk (w.setCells g o vs) g t (over cs o vs)
  | [], _, _, _, h => h
  | v :: r, o, _, _, h => Blk.sets r (o + 1) (h.set_ o v)
theorem over_size : ∀ (vs : List Value) (o : Nat) (cs : Array Value), (over cs o vs).size = cs.size
  | [], _, _ => rfl
  | v :: r, o, cs => by rw [over, over_size r, Array.size_setIfInBounds]
theorem over_list : ∀ (vs : List Value) (o : Nat) (cs : Array Value), o + vs.length ≤ cs.size → (over cs o vs).toList = cs.toList.take o ++ vs ++ cs.toList.drop (o + vs.length)
  | [], o, cs, _ => by simp [over]
  | v :: r, o, cs, h => by
    simp only [List.length_cons] at h
    rw [over, over_list r (o + 1) _ (by rw [Array.size_setIfInBounds]; omega)]
    have hl : o < cs.toList.length := by simp; omega
    rw [Array.toList_setIfInBounds, List.take_succ_eq_append_getElem (by simp; omega), List.take_set_of_le (Nat.le_refl _), List.drop_set_of_lt (by omega)]
    simp [show o + 1 + r.length = o + (r.length + 1) by omega]
theorem del_list (L xs : List Value) (m i : Nat) (hx : L.take m = xs) (hL : m ≤ L.length) (hi : i < m) : ((L.take i ++ xs.drop (i + 1)) ++ L.drop (m - 1)).take (m - 1) = xs.eraseIdx i := by
  have hxl : xs.length = m := by rw [← hx, List.length_take]; omega
  have h1 : L.take i = xs.take i := by rw [← hx, List.take_take, Nat.min_eq_left (by omega)]
  rw [h1, List.take_append_of_le_length (by simp; omega), List.take_of_length_le (by simp; omega), List.eraseIdx_eq_take_drop_succ]
theorem del_row {w : World} {base g m c i : Nat} {e : TypeId} {xs : List Value} {z : Value} (h : w.ownsRow base e 1 (.slice (some ⟨g, 0, none⟩) m c) m xs) (hi : i < m) :
    ((w.setCells g i (xs.drop (i + 1))).setCells g (m - 1) [z]).ownsRow base e 1 (.slice (some ⟨g, 0, none⟩) (m - 1) c) (m - 1) (xs.eraseIdx i) := by
  obtain ⟨h1, h2⟩ := h
  have hxl : xs.length = m := by omega
  rcases h2 with ⟨h2, _⟩ | ⟨g', cap, cur, hv, hg, hh, hn, hm, hs, hx⟩
  · cases h2
  · injection hv with hA _ hc
    injection hA with hA
    injection hA with hA _ _
    subst hA
    subst hc
    have hb := Blk.sets [z] (m - 1) (Blk.sets (xs.drop (i + 1)) i hh)
    refine ⟨by rw [List.length_eraseIdx_of_lt (by omega)]; omega, .inr ⟨g, c, _, rfl, hg, hb, by omega, hm, by rw [over_size, over_size, hs], ?_⟩⟩
    rw [over_list _ _ _ (by rw [over_size]; simp; omega), over_list _ _ _ (by simp; omega)]
    rw [Nat.mul_one] at hx ⊢
    rw [List.append_assoc, List.take_append_of_le_length (by simp; omega), List.take_take, Nat.min_self]
    have := del_list cur.toList xs m i hx (by simp; omega) hi
    rw [show i + (xs.drop (i + 1)).length = m - 1 by simp; omega]
    exact this

theorem grown_trans {a b c : World} {row : Option Nat} (h1 : a.grownBy b row) (h2 : b.grownBy c row) : a.grownBy c row :=
  ⟨h2.os.trans h1.os, h2.tape.trans h1.tape, h2.output.trans h1.output, Nat.le_trans h1.size h2.size, fun k hk hne => (h2.block k (Nat.lt_of_lt_of_le hk h1.size) hne).trans (h1.block k hk hne)⟩
theorem grown_sets (g : Nat) : ∀ (vs : List Value) (o : Nat) (w : World), w.grownBy (w.setCells g o vs) (some g)
  | [], _, w => World.grownBy.refl w _
  | v :: r, o, w => grown_trans (show w.grownBy (w.setCell ⟨g, o, none⟩ v) (some g) from ⟨rfl, rfl, rfl, by simp, fun k _ hk => Below.heap_setCell w ⟨g, o, none⟩ v k (fun e => hk (by rw [e]))⟩) (grown_sets g r (o + 1) _)
theorem grown_drew (w : World) (row : Option Nat) : w.grownBy w.drew row := ⟨rfl, rfl, rfl, Nat.le_refl _, fun _ _ _ => rfl⟩

set_option maxHeartbeats 4000000 in
set_option maxRecDepth 100000 in
theorem delete_own (base g m c i : Nat) (xs : List Value) (w : World) (ho : w.ownsRow base 3 1 (.slice (some ⟨g, 0, none⟩) m c) m xs) (h1 : ∀ u ∈ xs, u.oneCell' = true) (hi : i < m) :
    Calls Try.prog 16 #[.slice (some ⟨g, 0, none⟩) m c, .int .i64 (i : Int), .int .i64 ((i : Int) + 1)] w fun e w' => e = .returned (.slice (some ⟨g, 0, none⟩) (m - 1) c) ∧ w'.ownsRow base 3 1 (.slice (some ⟨g, 0, none⟩) (m - 1) c) (m - 1) (xs.eraseIdx i) ∧ w.grownBy w' (some g) := by
  obtain ⟨i0, hi0, hz0, hz1, hz2⟩ := info_parts int_info
  have hmc := own_le ho
  have hxl : xs.length = m := by have := ho.1; omega
  have hcm := hmc.2
  unfold maxLen at hcm
  have hmc1 := hmc.1
  clear hmc
  have HDEL := hide (del_row (z := .int .i64 0) ho.drew hi)
  obtain ⟨A, hA, hsrc⟩ : ∃ A : Addr, (if c = i + 1 then some (⟨g, 0, none⟩ : Addr) else some ⟨g, i + 1, none⟩) = some A ∧ Hid (∀ t u, (xs.drop (i + 1))[t]? = some u → w.drew.cell? (A.add t) = some u) := by
    by_cases h : c = i + 1
    · refine ⟨⟨g, 0, none⟩, by simp [h], fun t u hu => ?_⟩
      rw [List.drop_of_length_le (by omega)] at hu
      simp at hu
    · refine ⟨⟨g, i + 1, none⟩, by simp [h], fun t u hu => ?_⟩
      rw [List.getElem?_drop] at hu
      have := (own_cell ho (i + 1 + t) hu).1
      rw [add_lit]
      exact this
  have s1 : Hid ((xs.drop (i + 1)).length = (m - (i + 1)) * 1) := hide (by rw [List.length_drop]; omega)
  have s2 : Hid (∀ u ∈ xs.drop (i + 1), u.oneCell' = true) := hide (fun u hu => h1 u (List.mem_of_mem_drop hu))
  have hall : ∀ t, t < m → (w.cell? ⟨g, t, none⟩).isSome = true ∧ w.frozen? ⟨g, t, none⟩ = false := fun t ht => by
    obtain ⟨q1, q2⟩ := own_cell ho t (u := xs[t]'(by omega)) (List.getElem?_eq_getElem (by omega))
    exact ⟨by rw [q1]; rfl, q2⟩
  have s3 : Hid (∀ t, t < (xs.drop (i + 1)).length → (w.drew.cell? ⟨g, 0 + i * 1 + t, none⟩).isSome = true ∧ w.drew.frozen? ⟨g, 0 + i * 1 + t, none⟩ = false) := hide (fun t ht => by
    rw [List.length_drop] at ht
    rw [Nat.mul_one, Nat.zero_add]
    exact hall (i + t) (by omega))
  obtain ⟨W1, hW1⟩ : ∃ W1, W1 = w.drew.setCells g (0 + i * 1) (xs.drop (i + 1)) := ⟨_, rfl⟩
  have hW2 : w.drew.setCells g i (xs.drop (i + 1)) = W1 := by rw [hW1, Nat.mul_one, Nat.zero_add]
  have hs1 : ∀ t, t < m → (W1.cell? ⟨g, t, none⟩).isSome = true ∧ W1.frozen? ⟨g, t, none⟩ = false := fun t ht => by
    rw [hW1]
    exact ⟨World.isSome_setCells g _ _ _ _ (hall t ht).1, by rw [World.frozen?_setCells]; exact (hall t ht).2⟩
  obtain ⟨q, hq⟩ : ∃ q, q = i + (m - (i + 1)) := ⟨_, rfl⟩
  have hqm : q = m - 1 := by omega
  have hcl : ∀ ty, (Builtin.clear_ #[26] ty #[.slice (some ⟨g, q, none⟩) (m - q) (c - q)]).run Try.prog W1 = .ok (.tuple #[]) (W1.setCells g q [.int .i64 0]) := by
    intro ty
    have := Lib.run_clear_slice W1 _ _ ty (.int .i64 0) Try.underlying26 (fun _ => by kernel_rfl) rfl rfl g q 1 (c - q) (by omega) (fun t ht => (hs1 (q + t) (by omega)).1) (fun t ht => (hs1 (q + t) (by omega)).2)
    rw [show m - q = 1 by omega]
    exact this
  rw [hq] at hcl
  have HQ := hide (hq.symm.trans hqm)
  clear hq hqm
  have HW := hide hW1
  have HW2 := hide hW2
  have hic : i ≤ c := by omega
  have hjc : i + 1 ≤ c := by omega
  have hj0 : (0 : Int) ≤ (i : Int) + 1 := by omega
  have hjm : (i : Int) + 1 ≤ (m : Int) := by omega
  clear hW1 hW2 hs1 hall ho
  go_enter Try.func16, Try.ntmps16
  go_upto_region 5 with fail
  go_region_law ((refine step_append_room rfl (.tmp 22) (.tmp 25) 26 rfl 3 i0 1 Try.underlying26 hi0 hz1 g 0 i c (by simp [Act.eval, Act.put]) A (m - (i + 1)) (c - (i + 1)) (xs.drop (i + 1)) (by simp [Act.eval, Act.put]) s1.out hsrc.out s2.out (by omega) s3.out ?_; rw [← HW.out]))
  go_wp2_with fail
  go_ret
  refine ⟨?_, ?_, ?_⟩
  · show Ending.returned (.slice (some ⟨g, 0, none⟩) (i + (m - (i + 1))) c) = _
    rw [HQ.out]
  · rw [HQ.out, ← HW2.out]
    exact HDEL.out
  · rw [← HW2.out]
    exact grown_trans (grown_drew w _) (grown_trans (grown_sets g _ _ _) (grown_sets g _ _ _))

/-- Where a number stands first. -/
def IdxOf (xs : List Int) (v : Int) (z : Int) : Prop := (∃ i : Nat, ∃ h : i < xs.length, z = i ∧ xs[i] = v ∧ ∀ j (hj : j < xs.length), j < i → xs[j] ≠ v) ∨ (z = -1 ∧ v ∉ xs)
def IdxPost (w : World) (xs : List Int) (v : Int) (e : Ending) (w' : World) : Prop := ∃ z : Int, e = .returned (.int .i64 z) ∧ IdxOf xs v z ∧ w = w'
def IdxRel (xs : List Int) (v : Int) (n : Nat) (i : Value) : Prop := ∃ k : Nat, k ≤ n ∧ i = .int .i64 k ∧ ∀ j (hj : j < xs.length), j < k → xs[j] ≠ v
theorem index_ints (A : Option Addr) (n c B : Nat) (xs : List Int) (v : Int) (w : World) (hx : Reads w B 1 A n (intsV xs)) (hn : n ≤ maxLen) :
    Calls Try.prog 14 #[.slice A n c, .int .i64 v] w (IdxPost w xs v) := by
  unfold maxLen at hn
  have lx : xs.length = n := by have := hx.1; rw [intsV_length] at this; omega
  have LX := hide lx
  have HX := hide hx
  clear lx hx
  go_enter Try.func14, Try.ntmps14
  go_wp2_with fail
  go_loop [8] (IdxRel xs v n) (fun i => n - (intOf i).toNat)
  case atStart => exact ⟨0, Nat.zero_le _, rfl, fun j _ h => absurd h (by omega)⟩
  case round =>
    obtain ⟨k, hk, rfl, hne⟩ := hrel
    have HNE := hide hne
    clear hne
    by_cases hlt : k < n
    · obtain ⟨b, off, rfl, -, -⟩ := HX.out.at1 (by omega)
      have hkl : k < xs.length := by rw [LX.out]; exact hlt
      have g1 : w.cell? ⟨b, off + k, none⟩ = some (.int .i64 (xs.getD k 0)) := cells_ints HX.out k hlt
      have HG := hide (show xs.getD k 0 = xs[k] by simp [List.getD_eq_getElem?_getD, hkl])
      generalize xs.getD k 0 = x at g1 HG
      by_cases he : v = x
      · have t1 : (v == x) = true := by simpa using he
        have HE := hide he
        clear he
        go_wp2_with fail
        go_ret
        exact ⟨k, rfl, .inl ⟨k, hkl, rfl, by rw [← HG.out, HE.out], HNE.out⟩, rfl⟩
      · have t1 : (v == x) = false := by simpa using he
        go_wp2_with fail
        go_round
        case rel => exact ⟨k + 1, by omega, by go_num, fun j hj hjk => by
          by_cases e : j = k
          · subst e; rw [← HG.out]; exact fun h => he h.symm
          · exact HNE.out j hj (by omega)⟩
        case measure => simp [intOf]; omega
    · obtain rfl : k = n := by omega
      go_wp2_with fail
      go_ret
      exact ⟨-1, rfl, .inr ⟨rfl, fun hm => by obtain ⟨j, hj, e⟩ := List.getElem_of_mem hm; exact HNE.out j hj (by rw [← LX.out]; exact hj) e⟩, rfl⟩
theorem erase_first : ∀ (xs : List Int) (v : Int) (i : Nat) (h : i < xs.length), xs[i] = v → (∀ j (hj : j < xs.length), j < i → xs[j] ≠ v) → xs.eraseIdx i = xs.erase v
  | x :: xs, v, 0, _, h, _ => by simp at h; subst h; simp
  | x :: xs, v, i + 1, h, hv, hn => by
    have h0 : x ≠ v := hn 0 (by simp) (by omega)
    rw [List.eraseIdx_cons_succ, List.erase_cons_tail (by simpa using h0)]
    rw [erase_first xs v i (by simpa using h) (by simpa using hv) (fun j hj hji => by have := hn (j + 1) (by simpa using hj) (by omega); simpa using this)]
theorem intsV_eraseIdx (xs : List Int) (i : Nat) : (intsV xs).eraseIdx i = intsV (xs.eraseIdx i) := by
  rw [intsV, intsV, List.eraseIdx_eq_take_drop_succ, List.eraseIdx_eq_take_drop_succ, List.map_append, List.map_take, List.map_drop]
end Go.Proofs.Ytngdhpjbfcgloaa
