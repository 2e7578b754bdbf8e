/- The wheel of timers: finding one, adding one. -/
import Derived.Test.YthmojneobkaolaaGreatDoorTpIns
namespace Go.Proofs.YthmojneobkaolaaGreatDoor
open Go.RowKit
set_option linter.unusedVariables false

def tmC (p : Nat × Nat) : List Value := [.int .u32 (p.1 : Int), .int .i64 (p.2 : Int)]
def tmV (ls : List (Nat × Nat)) : List Value := ls.flatMap tmC
theorem tmC_len (p : Nat × Nat) : (tmC p).length = 2 := rfl
theorem tmV_len (ls : List (Nat × Nat)) : (tmV ls).length = ls.length * 2 := flat_length tmC_len ls
theorem tmV_one (ls : List (Nat × Nat)) : ∀ u ∈ tmV ls, u.oneCell' = true := by
  intro u hu
  obtain ⟨p, _, hp⟩ := List.mem_flatMap.1 hu
  simp only [tmC, List.mem_cons, List.not_mem_nil, or_false] at hp
  rcases hp with rfl | rfl <;> rfl
theorem tmV_append (a b : List (Nat × Nat)) : tmV (a ++ b) = tmV a ++ tmV b := by simp [tmV]
theorem tmV_take (ls : List (Nat × Nat)) : ∀ k, (tmV ls).take (k * 2) = tmV (ls.take k) := by
  induction ls with
  | nil => intro k; simp [tmV]
  | cons p l ih =>
    intro k
    cases k with
    | zero => simp [tmV]
    | succ k =>
      have e : tmV (p :: l) = tmC p ++ tmV l := by simp [tmV]
      have e' : tmV ((p :: l).take (k + 1)) = tmC p ++ tmV (l.take k) := by simp [tmV]
      rw [e, e', show (k + 1) * 2 = (tmC p).length + k * 2 by rw [tmC_len]; omega, List.take_length_add_append, ih k]
theorem tmV_drop (ls : List (Nat × Nat)) : ∀ k, (tmV ls).drop (k * 2) = tmV (ls.drop k) := by
  induction ls with
  | nil => intro k; simp [tmV]
  | cons p l ih =>
    intro k
    cases k with
    | zero => simp
    | succ k =>
      have e : tmV (p :: l) = tmC p ++ tmV l := by simp [tmV]
      rw [e, show (k + 1) * 2 = (tmC p).length + k * 2 by rw [tmC_len]; omega, List.drop_length_add_append, ih k]
      simp
/-- The wheel: its block, and its row. -/
structure WheelM (b : Nat) (w : World) (hw now : Nat) (A : Option Addr) (n cp : Nat) (ls : List (Nat × Nat)) : Prop where
  box : Blk w hw 108 #[.int .u32 (now : Int), .slice A n cp]
  ge : b ≤ hw
  row : w.ownsRow b tmT 2 (.slice A n cp) n (tmV ls)
  small : ∀ p ∈ ls, p.1 ≤ 1000000
  nows : now ≤ 1000000
theorem WheelM.ext {b : Nat} {w w' : World} {hw now : Nat} {A : Option Addr} {n cp : Nat} {ls : List (Nat × Nat)} (h : WheelM b w hw now A n cp ls) (hx : Ext w w') : WheelM b w' hw now A n cp ls := ⟨h.box.ext hx, h.ge, hx.own h.row, h.small, h.nows⟩
theorem WheelM.len {b : Nat} {w : World} {hw now : Nat} {A : Option Addr} {n cp : Nat} {ls : List (Nat × Nat)} (h : WheelM b w hw now A n cp ls) : ls.length = n := by
  have := h.row.1
  rw [tmV_len] at this
  omega
/-- A timer's two cells. -/
theorem WheelM.at {b : Nat} {w : World} {hw now : Nat} {A : Option Addr} {n cp : Nat} {ls : List (Nat × Nat)} (h : WheelM b w hw now A n cp ls) (i : Nat) (hi : i < n) : ∃ g p, A = some ⟨g, 0, none⟩ ∧ ls[i]? = some p ∧ w.cell? ⟨g, i * 2, none⟩ = some (.int .u32 (p.1 : Int)) ∧ w.cell? ⟨g, i * 2 + 1, none⟩ = some (.int .i64 (p.2 : Int)) ∧ p.1 ≤ 1000000 := by
  obtain ⟨g, rfl, -⟩ := own_addr h.row (by omega)
  have hl : i < ls.length := by rw [h.len]; exact hi
  refine ⟨g, ls[i], rfl, List.getElem?_eq_getElem hl, (own_cell h.row _ ?_).1, (own_cell h.row _ ?_).1, h.small _ (List.getElem_mem hl)⟩
  · exact flat_get tmC_len ls i 0 hl (by omega)
  · exact flat_get tmC_len ls i 1 hl (by omega)
theorem find1_at (t : Nat × Nat) (id : Nat) (p : Addr) (w : World) (hc : w.cell? p = some (.int .i64 (id : Int))) :
    Calls Tryz.prog 232 #[.agg (tmC t).toArray, .pointer (some p)] w fun e w' => e = .returned (.bool (decide (t.2 = id))) ∧ Ext w w' := by
  have e1 : ((t.2 : Int) == (id : Int)) = decide (t.2 = id) := by
    by_cases h : t.2 = id
    · rw [decide_eq_true h, h]; simp
    · rw [decide_eq_false h]; exact beq_eq_false_iff_ne.2 (by omega)
  have hx := (Ext.refl w).alloc (.cells #[.int .u32 (t.1 : Int), .int .i64 (t.2 : Int)] 110)
  have hc1 := hx.cell hc
  go_enter Tryz.func232, Tryz.ntmps232
  simp only [tmC]
  go_wp2_with fail
  go_ret
  exact ⟨rfl, hx⟩
def IxRel (ls : List (Nat × Nat)) (id n : Nat) (v : Value) (w0 wr : World) : Prop := ∃ i : Nat, v = .int .i64 (i : Int) ∧ i ≤ n ∧ (∀ j p, j < i → ls[j]? = some p → p.2 ≠ id) ∧ Ext w0 wr
def FoundI (ls : List (Nat × Nat)) (id n : Nat) (e : Ending) : Prop := (e = .returned (.int .i64 (-1)) ∧ ∀ p ∈ ls, p.2 ≠ id) ∨ ∃ (i : Nat) (p : Nat × Nat), e = .returned (.int .i64 (i : Int)) ∧ i < n ∧ ls[i]? = some p ∧ p.2 = id
set_option maxHeartbeats 8000000 in
theorem tindex_any {b : Nat} {w : World} {hw now : Nat} {A : Option Addr} {n cp : Nat} {ls : List (Nat × Nat)} (h : WheelM b w hw now A n cp ls) (hn : n ≤ 1000) (id : Nat) (p : Addr) (hc : w.cell? p = some (.int .i64 (id : Int))) :
    Calls Tryz.prog 231 #[.slice A n cp, .func (.func 232) #[] #[.pointer (some p)]] w fun e w' => FoundI ls id n e ∧ Ext w w' := by
  have H := hide h
  have HC := hide hc
  clear h hc
  go_enter Tryz.func231, Tryz.ntmps231
  go_upto_region 2 with fail
  go_loopw [8] (IxRel ls id n · w) (fun v _ => n - (intOf v).toNat)
  case atStart => exact ⟨0, rfl, Nat.zero_le _, fun j _ hj => absurd hj (by omega), Ext.refl _⟩
  case round =>
    obtain ⟨i, rfl, hi, hno, hx⟩ := hrel
    have HX := hide hx
    have HNO := hide hno
    have HF := hide (fun t => find1_at t id p wr (hx.cell HC.out))
    clear hx hno
    by_cases hlt : i < n
    · have hlt' : (i : Int) < (n : Int) := by omega
      obtain ⟨g, q, rfl, hq, k0, k1, -⟩ := (H.out.ext HX.out).at i hlt
      have HQ := hide hq
      clear hq
      go_wp2_with fail
      refine (HF.out q).mono ?_
      rintro e w1 ⟨rfl, hx1⟩
      have HX1 := hide (HX.out.trans hx1)
      clear hx1 HF k0 k1
      by_cases he : q.2 = id
      · rw [decide_eq_true he]
        go_wp2_with fail
        go_ret
        exact ⟨.inr ⟨i, q, rfl, hlt, HQ.out, he⟩, HX1.out⟩
      · rw [decide_eq_false he]
        go_wp2_with fail
        go_roundw
        case rel =>
          refine ⟨i + 1, by first | rfl | go_num, by omega, fun j p' hj hp' => ?_, HX1.out⟩
          by_cases hji : j = i
          · subst hji
            rw [HQ.out] at hp'
            injection hp' with hp'
            subst hp'
            exact he
          · exact HNO.out j p' (by omega) hp'
        case measure => simp [intOf]; omega
    · obtain rfl : i = n := by omega
      go_wp2_with fail
      go_ret
      refine ⟨.inl ⟨rfl, fun p hp => ?_⟩, HX.out⟩
      obtain ⟨j, hj, rfl⟩ := List.getElem_of_mem hp
      exact HNO.out j _ (by rw [H.out.len] at hj; exact hj) (List.getElem?_eq_getElem hj)
theorem tfind_any {b : Nat} {w : World} {hw now : Nat} {A : Option Addr} {n cp : Nat} {ls : List (Nat × Nat)} (h : WheelM b w hw now A n cp ls) (hn : n ≤ 1000) (id : Nat) :
    Calls Tryz.prog 158 #[.pointer (some ⟨hw, 0, none⟩), .int .i64 (id : Int)] w fun e w' => FoundI ls id n e ∧ Ext w w' := by
  have hx := (Ext.refl w).alloc (.cells #[.int .i64 (id : Int)] 3)
  have HI := hide (tindex_any (h.ext hx) hn id ⟨w.heap.size, 0, none⟩ ((Blk.new w 3 #[.int .i64 (id : Int)]).cell 0))
  have HX := hide hx
  have c1 := (h.ext hx).box.cell 1
  clear h hx
  go_enter Tryz.func158, Tryz.ntmps158
  go_wp2_with fail
  refine HI.out.mono ?_
  rintro e w1 ⟨hf, hx1⟩
  have HX1 := hide (HX.out.trans hx1)
  rcases hf with ⟨rfl, hf⟩ | ⟨i, p, rfl, hf⟩
  · go_wp2_with fail
    go_ret
    exact ⟨.inl ⟨rfl, hf⟩, HX1.out⟩
  · go_wp2_with fail
    go_ret
    exact ⟨.inr ⟨i, p, rfl, hf⟩, HX1.out⟩
end Go.Proofs.YthmojneobkaolaaGreatDoor
