/- What holds of a unit while lines are read. Plain theorems, no program in sight. -/
import Derived.Test.YtikbfmjhmjkkgaaDoorAmSettle
import Derived.Test.YtikbfmjhmjkkgaaDoorAmLine
namespace Go.Proofs.YtikbfmjhmjkkgaaDoor
open Go.RowKit
set_option linter.unusedVariables false

structure Inv (u : UnD) (k : Nat) : Prop where
  c1 : u.code.length ≤ 128
  c2 : u.needs.length ≤ u.code.length
  c3 : u.marks.length ≤ k
  nd : ∀ n ∈ u.needs, (∃ i, i < u.code.length ∧ n.1 = 4 * i) ∧ n.2.1.length ≤ 4000
  ms : ∀ m ∈ u.marks, m.2 ≤ 1000 ∧ m.1.length ≤ 4000
  wd : ∀ x ∈ u.code, x ≤ 4294967295
theorem Inv.sane {u : UnD} {k : Nat} (h : Inv u k) (hk : k ≤ 2100) : Sane u := ⟨h.nd, h.ms, h.wd, Nat.le_trans h.c1 (by decide), Nat.le_trans h.c2 (Nat.le_trans h.c1 (by decide)), Nat.le_trans h.c3 hk⟩
theorem Inv.mono {u : UnD} {k k' : Nat} (h : Inv u k) (hk : k ≤ k') : Inv u k' := ⟨h.c1, h.c2, Nat.le_trans h.c3 hk, h.nd, h.ms, h.wd⟩
theorem Inv.zero : Inv unit0 0 := ⟨by decide, by decide, by decide, fun n h => (by cases h), fun n h => (by cases h), fun n h => (by cases h)⟩
theorem Inv.put {u : UnD} {k : Nat} (h : Inv u k) {x : Nat} {need : Bs} {kind : Nat} (hc : u.code.length < 128) (hx : x ≤ 4294967295) (hn : need.length ≤ 4000) : Inv (u.put x need kind) k := by
  unfold UnD.put
  refine ⟨by simp; omega, ?_, h.c3, ?_, h.ms, fun y hy => ?_⟩
  · have := h.c2
    dsimp only
    split <;> simp <;> omega
  · intro n hn'
    dsimp only at hn' ⊢
    rw [List.length_append]
    split at hn'
    · obtain ⟨⟨i, h1, h2⟩, h3⟩ := h.nd n hn'
      exact ⟨⟨i, by omega, h2⟩, h3⟩
    · rcases List.mem_append.1 hn' with hn' | hn'
      · obtain ⟨⟨i, h1, h2⟩, h3⟩ := h.nd n hn'
        exact ⟨⟨i, by omega, h2⟩, h3⟩
      · rw [List.mem_singleton] at hn'
        subst hn'
        exact ⟨⟨u.code.length, by simp, rfl⟩, hn⟩
  · rcases List.mem_append.1 hy with hy | hy
    · exact h.wd y hy
    · rw [List.mem_singleton] at hy; omega
theorem name_len {s : Bs} (h : nameB s = true) : s.length ≤ 12 := by
  unfold nameB at h
  rw [Bool.and_eq_true] at h
  exact (of_decide_eq_true h.1).2
theorem opW_le {op a b : Nat} {c : Int} (h1 : op ≤ 26) (h2 : a < 8) (h3 : b < 8) : opW op a b c ≤ 4294967295 := by unfold opW; omega
theorem lastT_name_len {h : Bool} {f f3 : List Bs} {c : Int} {need : Bs} (e : lastT h f = some (c, need, f3)) : need.length ≤ 4000 := by
  unfold lastT at e
  split at e
  · split at e
    · cases e
    · split at e
      · injection e with e; injection e with _ e; injection e with e _; rw [← e]; simp
      · split at e
        · rename_i hn
          injection e with e; injection e with _ e; injection e with e _
          rw [← e]
          exact Nat.le_trans (name_len hn) (by decide)
        · cases e
  · injection e with e; injection e with _ e; injection e with e _; rw [← e]; simp
theorem order_inv {u u' : UnD} {k : Nat} {name : Bs} {f : List Bs} (h : Inv u k) (hc : u.code.length < 128) (e : orderL u name f = some u') : Inv u' k := by
  by_cases hop : numOf name = 0
  · unfold orderL at e; rw [if_pos hop] at e; cases e
  · cases ha : regT (bitB (rowN (numOf name)).2 1) f with
    | none => rw [order_noA hop ha] at e; cases e
    | some x =>
      obtain ⟨a, f1⟩ := x
      cases hb : regT (bitB (rowN (numOf name)).2 2) f1 with
      | none => rw [order_noB hop ha hb] at e; cases e
      | some y =>
        obtain ⟨b, f2⟩ := y
        cases hcc : lastT (bitB (rowN (numOf name)).2 4) f2 with
        | none => rw [order_noC hop ha hb hcc] at e; cases e
        | some z =>
          obtain ⟨c, need, f3⟩ := z
          rw [order_all hop ha hb hcc] at e
          split at e
          · injection e with e
            rw [← e]
            exact h.put hc (opW_le (numOf_bound name) (regT_lt ha).1 (regT_lt hb).1) (lastT_name_len hcc)
          · cases e
theorem word_inv {u u' : UnD} {k : Nat} {f : List Bs} (h : Inv u k) (hc : u.code.length < 128) (e : wordL' u f = some u') : Inv u' k := by
  unfold wordL' at e
  split at e
  · rename_i s
    split at e
    · rename_i hn
      injection e with e
      rw [← e]
      exact h.put hc (by decide) (Nat.le_trans (name_len hn) (by decide))
    · split at e
      · rename_i n hn
        injection e with e
        rw [← e]
        have := numB_bounds hn
        exact h.put hc (by omega) (by decide)
      · cases e
  · cases e
theorem inst_inv {u u' : UnD} {k : Nat} {f : List Bs} (h : Inv u k) (e : instL u f = .ok u') : Inv u' k := by
  unfold instL at e
  split at e
  · injection e with e; rw [← e]; exact h
  · rename_i a r
    split at e
    · cases e
    · rename_i hc
      have hc' : u.code.length < 128 := by have := h.c1; omega
      split at e
      · cases hw : wordL' u r with
        | none => rw [hw] at e; cases e
        | some u1 => rw [hw] at e; injection e with e; rw [← e]; exact word_inv h hc' hw
      · cases hw : orderL u a r with
        | none => rw [hw] at e; cases e
        | some u1 => rw [hw] at e; injection e with e; rw [← e]; exact order_inv h hc' hw
theorem mark_inv {u u' : UnD} {k : Nat} {name : Bs} (h : Inv u k) (e : markL u name = .ok u') : Inv u' (k + 1) := by
  unfold markL at e
  split at e
  · rename_i hn
    split at e
    · cases e
    · injection e with e
      rw [← e]
      refine ⟨h.c1, h.c2, by have := h.c3; simp; omega, h.nd, fun m hm => ?_, h.wd⟩
      rcases List.mem_append.1 hm with hm | hm
      · exact h.ms m hm
      · rw [List.mem_singleton] at hm
        subst hm
        have := h.c1
        exact ⟨by dsimp only; omega, Nat.le_trans (name_len hn) (by decide)⟩
  · cases e
theorem line_inv {u u' : UnD} {k : Nat} {s : Bs} (h : Inv u k) (e : lineL u s = .ok u') : Inv u' (k + 1) := by
  unfold lineL at e
  split at e
  · unfold fieldsL at e
    split at e
    · injection e with e; rw [← e]; exact h.mono (Nat.le_succ k)
    · split at e
      · split at e
        · rename_i u1 hm
          exact inst_inv (mark_inv h hm) e
        · cases e
      · exact (inst_inv h e).mono (Nat.le_succ k)
  · cases e
end Go.Proofs.YtikbfmjhmjkkgaaDoor
