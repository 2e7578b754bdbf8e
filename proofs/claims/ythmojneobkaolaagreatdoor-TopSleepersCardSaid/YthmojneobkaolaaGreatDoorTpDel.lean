/- slices.Delete of one timer, in place, on a row of the call's own. -/
import Derived.Test.YthmojneobkaolaaGreatDoorTpWheel3
import Derived.Deep.RegionLaw
import Derived.Lib.SliceRun
import Derived.Deep.Upon
import Derived.Deep.MidRow
namespace Go.Proofs.YthmojneobkaolaaGreatDoor
open Go.RowKit
set_option linter.unusedVariables false

theorem grown_trans' {a b c : World} {row : Option Nat} (h : a.grownBy b row) (k : b.grownBy c row) : a.grownBy c row :=
  ⟨k.os.trans h.os, k.tape.trans h.tape, k.output.trans h.output, Nat.le_trans h.size k.size, fun i hi hn => (k.block i (Nat.lt_of_lt_of_le hi h.size) hn).trans (h.block i hi hn)⟩
theorem grown_sets {a w : World} {g : Nat} (o : Nat) (vs : List Value) (h : a.grownBy w (some g)) : a.grownBy (w.setCells g o vs) (some g) := grown_trans' h (setCells_grown g vs w o)
def over (cs : Array Value) : Nat → List Value → Array Value
  | _, [] => cs
  | o, v :: r => over (cs.setIfInBounds o v) (o + 1) r
theorem Blk.sets {g : Nat} {t : TypeId} : ∀ (vs : List Value) (o : Nat) {w : World} {cs : Array Value}, Blk w g t cs → Blk (w.setCells g o vs) g t (over cs o vs)
  | [], _, _, _, h => h
  | v :: r, o, _, _, h => Blk.sets r (o + 1) (h.set_ o v)
theorem over_size : ∀ (vs : List Value) (o : Nat) (cs : Array Value), (over cs o vs).size = cs.size
  | [], _, _ => rfl
  | v :: r, o, cs => by rw [over, over_size r, Array.size_setIfInBounds]
theorem over_list : ∀ (vs : List Value) (o : Nat) (cs : Array Value), o + vs.length ≤ cs.size → (over cs o vs).toList = cs.toList.take o ++ vs ++ cs.toList.drop (o + vs.length)
  | [], o, cs, _ => by simp [over]
  | v :: r, o, cs, h => by
    simp only [List.length_cons] at h
    rw [over, over_list r (o + 1) _ (by rw [Array.size_setIfInBounds]; omega)]
    have hl : o < cs.toList.length := by simp; omega
    rw [Array.toList_setIfInBounds, List.take_succ_eq_append_getElem (by simp; omega), List.take_set_of_le (Nat.le_refl _), List.drop_set_of_lt (by omega)]
    simp [show o + 1 + r.length = o + (r.length + 1) by omega]
theorem del_list2 (L xs : List Value) (m i : Nat) (hx : L.take (m * 2) = xs) (hL : m * 2 ≤ L.length) (hi : i < m) : ((L.take (i * 2) ++ xs.drop ((i + 1) * 2)) ++ L.drop ((m - 1) * 2)).take ((m - 1) * 2) = xs.take (i * 2) ++ xs.drop ((i + 1) * 2) := by
  have hxl : xs.length = m * 2 := by rw [← hx, List.length_take]; omega
  have h1 : L.take (i * 2) = xs.take (i * 2) := by rw [← hx, List.take_take, Nat.min_eq_left (by omega)]
  rw [h1, List.take_append_of_le_length (by simp; omega), List.take_of_length_le (by simp; omega)]
theorem del_row2 {w : World} {base g m c i : Nat} {e : TypeId} {xs zs : List Value} (h : w.ownsRow base e 2 (.slice (some ⟨g, 0, none⟩) m c) m xs) (hi : i < m) (hz : zs.length = 2) :
    ((w.setCells g (i * 2) (xs.drop ((i + 1) * 2))).setCells g ((m - 1) * 2) zs).ownsRow base e 2 (.slice (some ⟨g, 0, none⟩) (m - 1) c) (m - 1) (xs.take (i * 2) ++ xs.drop ((i + 1) * 2)) := by
  obtain ⟨h1, h2⟩ := h
  have hxl : xs.length = m * 2 := by omega
  rcases h2 with ⟨h2, _⟩ | ⟨g', cap, cur, hv, hg, hh, hn, hm, hs, hx⟩
  · cases h2
  · injection hv with hA _ hc
    injection hA with hA
    injection hA with hA _ _
    subst hA
    subst hc
    have hb := Blk.sets zs ((m - 1) * 2) (Blk.sets (xs.drop ((i + 1) * 2)) (i * 2) hh)
    refine ⟨by rw [List.length_append, List.length_take, List.length_drop]; omega, .inr ⟨g, c, _, rfl, hg, hb, by omega, hm, by rw [over_size, over_size, hs], ?_⟩⟩
    have hcs : cur.size = c * 2 := hs
    rw [over_list _ _ _ (by rw [over_size]; omega), over_list _ _ _ (by simp; omega)]
    rw [List.append_assoc, List.take_append_of_le_length (by simp; omega), List.take_take, Nat.min_self]
    have := del_list2 cur.toList xs m i hx (by simp; omega) hi
    rw [show i * 2 + (xs.drop ((i + 1) * 2)).length = (m - 1) * 2 by simp; omega]
    exact this
theorem flat_erase : ∀ (ls : List (Nat × Nat)) (i : Nat), (ls.flatMap tmC).take (i * 2) ++ (ls.flatMap tmC).drop ((i + 1) * 2) = (ls.eraseIdx i).flatMap tmC
  | [], i => by simp
  | x :: ls, 0 => by
    rw [List.flatMap_cons, Nat.zero_mul, List.take_zero, List.nil_append, List.drop_append_of_le_length (by rw [tmC_len]; omega), List.drop_of_length_le (by rw [tmC_len]; omega)]
    simp
  | x :: ls, i + 1 => by
    have hl : (tmC x).length = 2 := rfl
    have ih := flat_erase ls i
    rw [List.flatMap_cons, List.eraseIdx_cons_succ, List.flatMap_cons, ← ih, show (i + 1) * 2 = (tmC x).length + i * 2 by rw [hl]; omega, show (i + 1 + 1) * 2 = (tmC x).length + (i + 1) * 2 by rw [hl]; omega, List.take_length_add_append, List.drop_length_add_append, List.append_assoc, hl, show (i + 1) * 2 = 2 + i * 2 by omega]
theorem grown_drew' (w : World) (row : Option Nat) : w.grownBy w.drew row := ⟨rfl, rfl, rfl, Nat.le_refl _, fun _ _ _ => rfl⟩
section
variable {P : Program}
/-- 'clear' of one element of several cells. -/
theorem run_clear_one (w : World) (t e ty : TypeId) (z : Value) (zs : List Value) (ht : P.underlying t = some (.slice e)) (hv : ∀ w, (zeroValue e).run P w = .ok z w) (hz : z.cells = zs.toArray) (h1 : ∀ v ∈ zs, v.oneCell' = true) (b o c : Nat)
    (hc : ∀ j, j < zs.length → (w.cell? ⟨b, o + j, none⟩).isSome = true) (hf : ∀ j, j < zs.length → w.frozen? ⟨b, o + j, none⟩ = false) :
    (Builtin.clear_ #[t] ty #[.slice (some ⟨b, o, none⟩) 1 c]).run P w = .ok (.tuple #[]) (w.setCells b o zs) := by
  have hzc : (Builtin.zeroCells z.cells 1).toList = zs := by
    rw [hz]
    simp [Builtin.zeroCells]
    apply List.ext_getElem
    · simp
    · intro i h1 h2
      have h2' : i < zs.length := h2
      simp [Nat.mod_eq_of_lt h2', h2']
  have hst := run_storeCells_cells (P := P) b o zs 0 w (by simpa using hc) (by simpa using hf) h1
  simp only [Nat.add_zero] at hst
  simp [Builtin.clear_, run_underlying ht, hv, hzc, hst]
end
abbrev tmZ : List Value := [.int .u32 0, .int .i64 0]
set_option maxHeartbeats 4000000 in
set_option maxRecDepth 100000 in
theorem delete_tm (base g m c i : Nat) (ls : List (Nat × Nat)) (w : World) (ho : w.ownsRow base 110 2 (.slice (some ⟨g, 0, none⟩) m c) m (ls.flatMap tmC)) (h1 : ∀ u ∈ ls.flatMap tmC, u.oneCell' = true) (hi : i < m) :
    Calls Tryz.prog 159 #[.slice (some ⟨g, 0, none⟩) m c, .int .i64 (i : Int), .int .i64 ((i : Int) + 1)] w fun e w' => e = .returned (.slice (some ⟨g, 0, none⟩) (m - 1) c) ∧ w'.ownsRow base 110 2 (.slice (some ⟨g, 0, none⟩) (m - 1) c) (m - 1) ((ls.eraseIdx i).flatMap tmC) ∧ w.grownBy w' (some g) := by
  obtain ⟨i0, hi0, hz0, hz1, hz2⟩ := info_parts tm_info
  obtain ⟨xs, hxs⟩ : ∃ x, ls.flatMap tmC = x := ⟨_, rfl⟩
  have HERA := hide (flat_erase ls i)
  rw [hxs] at ho h1 HERA
  clear hxs
  have hmc := own_le ho
  have hxl : xs.length = m * 2 := by have := ho.1; omega
  have hcm := hmc.2
  unfold maxLen at hcm
  have hmc1 := hmc.1
  clear hmc
  have HDEL := hide (del_row2 (zs := tmZ) ho.drew hi rfl)
  obtain ⟨A, hA, hsrc⟩ : ∃ A : Addr, (if c = i + 1 then some (⟨g, 0, none⟩ : Addr) else some ⟨g, (i + 1) * 2, none⟩) = some A ∧ Hid (∀ t u, (xs.drop ((i + 1) * 2))[t]? = some u → w.drew.cell? (A.add t) = some u) := by
    by_cases h : c = i + 1
    · refine ⟨⟨g, 0, none⟩, by simp [h], fun t u hu => ?_⟩
      rw [List.drop_of_length_le (by omega)] at hu
      simp at hu
    · refine ⟨⟨g, (i + 1) * 2, none⟩, by simp [h], fun t u hu => ?_⟩
      rw [List.getElem?_drop] at hu
      have := (own_cell ho ((i + 1) * 2 + t) hu).1
      rw [add_lit]
      exact this
  have s1 : Hid ((xs.drop ((i + 1) * 2)).length = (m - (i + 1)) * 2) := hide (by rw [List.length_drop]; omega)
  have s2 : Hid (∀ u ∈ xs.drop ((i + 1) * 2), u.oneCell' = true) := hide (fun u hu => h1 u (List.mem_of_mem_drop hu))
  have hall : ∀ t, t < m * 2 → (w.cell? ⟨g, t, none⟩).isSome = true ∧ w.frozen? ⟨g, t, none⟩ = false := fun t ht => by
    obtain ⟨q1, q2⟩ := own_cell ho t (u := xs[t]'(by omega)) (List.getElem?_eq_getElem (by omega))
    exact ⟨by rw [q1]; rfl, q2⟩
  have s3 : Hid (∀ t, t < (xs.drop ((i + 1) * 2)).length → (w.drew.cell? ⟨g, 0 + i * 2 + t, none⟩).isSome = true ∧ w.drew.frozen? ⟨g, 0 + i * 2 + t, none⟩ = false) := hide (fun t ht => by
    rw [List.length_drop] at ht
    rw [Nat.zero_add]
    exact hall (i * 2 + t) (by omega))
  obtain ⟨W1, hW1⟩ : ∃ W1, W1 = w.drew.setCells g (0 + i * 2) (xs.drop ((i + 1) * 2)) := ⟨_, rfl⟩
  have hW2 : w.drew.setCells g (i * 2) (xs.drop ((i + 1) * 2)) = W1 := by rw [hW1, Nat.zero_add]
  have hs1 : ∀ t, t < m * 2 → (W1.cell? ⟨g, t, none⟩).isSome = true ∧ W1.frozen? ⟨g, t, none⟩ = false := fun t ht => by
    rw [hW1]
    exact ⟨World.isSome_setCells g _ _ _ _ (hall t ht).1, by rw [World.frozen?_setCells]; exact (hall t ht).2⟩
  obtain ⟨q, hq⟩ : ∃ q, q = i + (m - (i + 1)) := ⟨_, rfl⟩
  have hqm : q = m - 1 := by omega
  have hcl : ∀ ty, (Builtin.clear_ #[106] ty #[.slice (some ⟨g, q * 2, none⟩) (m - q) (c - q)]).run Tryz.prog W1 = .ok (.tuple #[]) (W1.setCells g (q * 2) tmZ) := by
    intro ty
    have := run_clear_one W1 _ _ ty (.agg #[.int .u32 0, .int .i64 0]) tmZ Tryz.underlying106 (fun _ => by kernel_rfl) rfl (by simp [tmZ, Value.oneCell']) g (q * 2) (c - q) (fun t ht => (hs1 (q * 2 + t) (by simp [tmZ] at ht; omega)).1) (fun t ht => (hs1 (q * 2 + t) (by simp [tmZ] at ht; omega)).2)
    rw [show m - q = 1 by omega]
    exact this
  rw [hq] at hcl
  have HQ := hide (hq.symm.trans hqm)
  clear hq hqm
  have HW := hide hW1
  have HW2 := hide hW2
  have hic : i ≤ c := by omega
  have hjc : i + 1 ≤ c := by omega
  have hj0 : (0 : Int) ≤ (i : Int) + 1 := by omega
  have hjm : (i : Int) + 1 ≤ (m : Int) := by omega
  clear hW1 hW2 hs1 hall ho
  go_enter Tryz.func159, Tryz.ntmps159
  go_upto_region 5 with fail
  go_region_law ((refine step_append_room rfl (.tmp 22) (.tmp 25) 106 rfl 110 i0 2 Tryz.underlying106 hi0 hz1 g 0 i c (by simp [Act.eval, Act.put]) A (m - (i + 1)) (c - (i + 1)) (xs.drop ((i + 1) * 2)) (by simp [Act.eval, Act.put]) s1.out hsrc.out s2.out (by omega) s3.out ?_; rw [← HW.out]))
  go_wp2_with fail
  go_ret
  refine ⟨?_, ?_, ?_⟩
  · show Ending.returned (.slice (some ⟨g, 0, none⟩) (i + (m - (i + 1))) c) = _
    rw [HQ.out]
  · rw [HQ.out, ← HW2.out, ← HERA.out]
    exact HDEL.out
  · rw [← HW2.out]
    exact grown_trans' (grown_drew' w _) (grown_sets _ _ (grown_sets _ _ (World.grownBy.refl _ _)))
end Go.Proofs.YthmojneobkaolaaGreatDoor
