/- slices.Compact on edges. -/
import Derived.Test.YtngdhpjbfcgloaaOrClear
import Derived.Laws.StructEq
import Derived.Deep.QuietTactic
import Derived.BigQuiet
import Derived.Deep.DeepCutAuto
namespace Go.Proofs.Ytngdhpjbfcgloaa
open Go.RowKit
set_option linter.unusedVariables false

def CoRel (w : World) (base g n cap : Nat) (E : List EdI) (v : Value) (wr : World) : Prop := ∃ i : Nat, 1 ≤ i ∧ i ≤ n ∧ v = .int .i64 (i : Int) ∧ wr.ownsRow base 24 2 (.slice (some ⟨g, 0, none⟩) n cap) n (edV E) ∧ w.grownBy wr (some g)
def Co2Rel (w : World) (base g n cap i : Nat) (E : List EdI) (v3 v5 : Value) (wr : World) : Prop := ∃ (q r : Nat) (L : List EdI), v5 = .int .i64 (q : Int) ∧ v3 = .int .i64 (r : Int) ∧ 1 ≤ q ∧ q ≤ n - i ∧ i ≤ r ∧ r + 1 ≤ i + q ∧ L.length = n ∧ (∀ x ∈ L, x ∈ E) ∧ wr.ownsRow base 24 2 (.slice (some ⟨g, 0, none⟩) n cap) n (edV L) ∧ w.grownBy wr (some g)
theorem grown_drewN {a b : World} {row : Option Nat} (h : a.grownBy b row) (d : Nat) : a.grownBy (b.drewN d) row := ⟨h.os, h.tape, h.output, h.size, fun k hk hne => h.block k hk hne⟩
theorem own_edge {w : World} {base g n c : Nat} {e : TypeId} {E : List EdI} (h : w.ownsRow base e 2 (.slice (some ⟨g, 0, none⟩) n c) n (edV E)) (i : Nat) (hi : i < E.length) :
    w.cell? ⟨g, i * 2, none⟩ = some (.int .i64 E[i].1) ∧ w.cell? ⟨g, i * 2 + 1, none⟩ = some (.int .i64 E[i].2) := by
  have e0 : E[i * 2 / 2]! = E[i] := by rw [show i * 2 / 2 = i by omega, getElem!_pos E i hi]
  have e1 : E[(i * 2 + 1) / 2]! = E[i] := by rw [show (i * 2 + 1) / 2 = i by omega, getElem!_pos E i hi]
  have h0 := edV_get E (i * 2) (by omega)
  have h1 := edV_get E (i * 2 + 1) (by omega)
  rw [e0, show i * 2 % 2 = 0 by omega] at h0
  rw [e1, show (i * 2 + 1) % 2 = 1 by omega] at h1
  exact ⟨(own_cell h (i * 2) h0).1, (own_cell h (i * 2 + 1) h1).1⟩
theorem edV_set : ∀ (l : List EdI) (r : Nat) (x : EdI), ((edV l).set (r * 2) (.int .i64 x.1)).set (r * 2 + 1) (.int .i64 x.2) = edV (l.set r x) := by
  intro l
  induction l with
  | nil => intro r x; simp [edV]
  | cons y l ih =>
    intro r x
    have e0 : edV (y :: l) = .int .i64 y.1 :: .int .i64 y.2 :: edV l := rfl
    cases r with
    | zero => rfl
    | succ r =>
      have e1 : (r + 1) * 2 = r * 2 + 1 + 1 := by omega
      have e2 : (y :: l).set (r + 1) x = y :: l.set r x := rfl
      rw [e0, e1, e2]
      show (Value.int .i64 y.1) :: (Value.int .i64 y.2) :: ((edV l).set (r * 2) (.int .i64 x.1)).set (r * 2 + 1) (.int .i64 x.2) = _
      rw [ih r x]
      rfl
theorem grown_setCell {a b : World} {g o : Nat} (h : a.grownBy b (some g)) (u : Value) : a.grownBy (b.setCell ⟨g, o, none⟩ u) (some g) := grown_trans h (grown_sets g [u] o b)
set_option maxHeartbeats 4000000 in
set_option maxRecDepth 100000 in
theorem compact_edges (E : List EdI) (g n cap base : Nat) (w : World) (h : w.ownsRow base 24 2 (.slice (some ⟨g, 0, none⟩) n cap) n (edV E)) (hn : n ≤ 1000000) :
    Calls Try.prog 23 #[.slice (some ⟨g, 0, none⟩) n cap] w fun e w' => ∃ (m : Nat) (E' : List EdI), e = .returned (.slice (some ⟨g, 0, none⟩) m cap) ∧ (∀ x ∈ E', x ∈ E) ∧ (n = 1 → m = 1) ∧ m ≤ n ∧ w'.ownsRow base 24 2 (.slice (some ⟨g, 0, none⟩) m cap) m (edV E') ∧ w.grownBy w' (some g) := by
  have HL := hide (show E.length = n by have := h.1; rw [edV_len] at this; omega)
  have HO := hide h
  clear h
  by_cases h2 : n < 2
  · have t1 : decide ((n : Int) < 2) = true := decide_eq_true (by omega)
    go_enter Try.func23, Try.ntmps23
    go_wp2_with fail
    go_ret
    exact ⟨n, E, rfl, fun x hx => hx, fun h => h, Nat.le_refl _, HO.out, World.grownBy.refl _ _⟩
  · have t1 : decide ((n : Int) < 2) = false := decide_eq_false (by omega)
    go_enter Try.func23, Try.ntmps23
    go_wp2_with fail
    go_loopw [3] (CoRel w base g n cap E) (fun v _ => n - (intOf v).toNat)
    case atStart => exact ⟨1, by omega, by omega, rfl, HO.out, World.grownBy.refl _ _⟩
    case round =>
      obtain ⟨i, hi1, hin, rfl, how, hxw⟩ := hrel
      have HOW := hide how
      have HXW := hide hxw
      clear how hxw
      by_cases hlt : i < n
      · obtain ⟨j, hj⟩ : ∃ j, i = j + 1 := ⟨i - 1, by omega⟩
        obtain ⟨p0, p1⟩ := own_edge HOW.out i (by rw [HL.out]; exact hlt)
        obtain ⟨q0, q1⟩ := own_edge HOW.out j (by rw [HL.out]; omega)
        generalize E[i]'(by rw [HL.out]; exact hlt) = x at p0 p1
        generalize E[j]'(by rw [HL.out]; omega) = y at q0 q1
        obtain ⟨x1, x2⟩ := x
        obtain ⟨y1, y2⟩ := y
        dsimp only at p0 p1 q0 q1
        have wj : IntKind.i64.wrap ((i : Int) - 1) = (j : Int) := by rw [IntKind.wrap_i64]; omega
        have wj' : wrap64 ((i : Int) - 1) = (j : Int) := by unfold wrap64; omega
        have b1 : (0 : Int) ≤ (i : Int) := by omega
        have b2 : (i : Int) < (n : Int) := by omega
        have b3 : (0 : Int) ≤ (j : Int) := by omega
        have b4 : (j : Int) < (n : Int) := by omega
        have b5 : j < n := by omega
        have HJ := hide hj
        clear hj
        by_cases he : x1 = y1 ∧ x2 = y2
        · obtain ⟨rfl, rfl⟩ := he
          go_wp2_with fail
          go_quiet (fail)
          have HO2 := hide (show (wr.drewN nq).ownsRow base 24 2 (.slice (some ⟨g, 0, none⟩) n cap) n (edV E) from HOW.out)
          have HX2 := hide (grown_drewN HXW.out nq)
          generalize wr.drewN nq = W at *
          have hic : i < cap := by have := own_le HO2.out; omega
          go_wp2_with fail
          go_loopw [3, 5] (Co2Rel w base g n cap i E) (fun _ v _ => n - i - (intOf v).toNat)
          case atStart => exact ⟨1, i, E, rfl, rfl, by omega, by omega, by omega, by omega, HL.out, fun x hx => hx, HO2.out, HX2.out⟩
          case round =>
            obtain ⟨q, r, L, rfl, rfl, hq1, hqn, hir, hrq, hLl, hLE, how, hxw⟩ := hrel
            have HO3 := hide how
            have HX3 := hide hxw
            have HLE := hide hLE
            have HLL := hide hLl
            clear how hxw hLE p0 p1 q0 q1
            have hrn : r < n := by omega
            have d1 : (0 : Int) ≤ (r : Int) := by omega
            have d2 : (r : Int) < (n : Int) := by omega
            by_cases hq : q < n - i
            · obtain ⟨k, hk⟩ : ∃ k, q = k + 1 := ⟨q - 1, by omega⟩
              have hm : L[i + q]'(by omega) ∈ E := HLE.out _ (List.getElem_mem _)
              obtain ⟨p0, p1⟩ := own_edge HO3.out (i + q) (by omega)
              obtain ⟨q0, q1⟩ := own_edge HO3.out (i + k) (by omega)
              obtain ⟨r0, r1⟩ := own_edge HO3.out r (by omega)
              have f0 := (own_cell HO3.out (r * 2) (u := .int .i64 L[r].1) (by have h0 := edV_get L (r * 2) (by omega); rw [h0, show r * 2 / 2 = r by omega, getElem!_pos L r (by omega), show r * 2 % 2 = 0 by omega]; rfl)).2
              have f1 := (own_cell HO3.out (r * 2 + 1) (u := .int .i64 L[r].2) (by have h0 := edV_get L (r * 2 + 1) (by omega); rw [h0, show (r * 2 + 1) / 2 = r by omega, getElem!_pos L r (by omega), show (r * 2 + 1) % 2 = 1 by omega]; rfl)).2
              generalize L[i + q]'(by omega) = x at p0 p1 hm
              generalize L[i + k]'(by omega) = y at q0 q1
              obtain ⟨x1, x2⟩ := x
              obtain ⟨y1, y2⟩ := y
              dsimp only at p0 p1 q0 q1
              rw [show (i + q) * 2 = i * 2 + q * 2 by omega] at p0 p1
              rw [show (i + k) * 2 = i * 2 + k * 2 by omega] at q0 q1
              have wk : IntKind.i64.wrap ((q : Int) - 1) = (k : Int) := by rw [IntKind.wrap_i64]; omega
              have wk' : wrap64 ((q : Int) - 1) = (k : Int) := by unfold wrap64; omega
              have c1 : (0 : Int) ≤ (q : Int) := by omega
              have c2 : (q : Int) < ((n - i : Nat) : Int) := by omega
              have c3 : (0 : Int) ≤ (k : Int) := by omega
              have c4 : (k : Int) < ((n - i : Nat) : Int) := by omega
              have c5 : k < n - i := by omega
              have HM := hide hm
              have HK := hide hk
              have HST := hide (show ((edV L).set (r * 2) (.int .i64 x1)).set (r * 2 + 1) (.int .i64 x2) = edV (L.set r (x1, x2)) from edV_set L r (x1, x2))
              clear hk hm
              by_cases he : x1 = y1 ∧ x2 = y2
              · obtain ⟨rfl, rfl⟩ := he
                go_wp2_with fail
                go_quiet (fail)
                have HX4 := hide (grown_drewN HX3.out nq)
                have HO4 := hide (show (World.drewN _ nq).ownsRow base 24 2 (.slice (some ⟨g, 0, none⟩) n cap) n (edV L) from HO3.out)
                go_wp2_with fail
                go_roundw
                case rel => exact ⟨q + 1, r, L, by go_num, rfl, by omega, by omega, hir, by omega, HLL.out, HLE.out, HO4.out, HX4.out⟩
                case measure => simp [intOf]; omega
              · have hcs : (x1 == y1) = false ∨ (x1 = y1 ∧ (x2 == y2) = false) := by
                  by_cases h1 : x1 = y1
                  · exact .inr ⟨h1, by simpa using fun h => he ⟨h1, h⟩⟩
                  · exact .inl (by simpa using h1)
                clear he
                have hwr : IntKind.i64.wrap ((r : Int) + 1) = ((r + 1 : Nat) : Int) := by rw [IntKind.wrap_i64]; omega
                rcases hcs with t0 | ⟨rfl, t0⟩
                all_goals
                  go_wp2_with fail
                  go_quiet (fail)
                  have HX4 := hide (grown_drewN HX3.out nq)
                  have HO4 := hide (show (wr.drewN nq).ownsRow base 24 2 (.slice (some ⟨g, 0, none⟩) n cap) n (edV L) from HO3.out)
                  have s0 : (wr.drewN nq).cell? ⟨g, i * 2 + q * 2, none⟩ = _ := p0
                  have s1 : (wr.drewN nq).cell? ⟨g, i * 2 + q * 2 + 1, none⟩ = _ := p1
                  have s2 : (wr.drewN nq).cell? ⟨g, r * 2, none⟩ = _ := r0
                  have s3 : (wr.drewN nq).cell? ⟨g, r * 2 + 1, none⟩ = _ := r1
                  have s4 : (wr.drewN nq).frozen? ⟨g, r * 2, none⟩ = false := f0
                  have s5 : (wr.drewN nq).frozen? ⟨g, r * 2 + 1, none⟩ = false := f1
                  clear p0 p1 q0 q1 r0 r1 f0 f1
                  generalize wr.drewN nq = V at *
                  go_wp2_with fail
                  go_roundw
                  case rel => exact ⟨q + 1, r + 1, L.set r (x1, x2), by go_num, by go_num, by omega, by omega, by omega, by omega, by rw [List.length_set]; exact HLL.out, (fun z hz => by rcases List.mem_or_eq_of_mem_set hz with h | h; exact HLE.out z h; rw [h]; exact HM.out), by have := own_set (own_set HO4.out (r * 2) (.int .i64 x1)) (r * 2 + 1) (.int .i64 x2); rw [HST.out] at this; exact this, grown_setCell (grown_setCell HX4.out _) _⟩
                  case measure => simp [intOf]; omega
            · obtain rfl : q = n - i := by omega
              have hLn : (edV L).length = n * 2 := by rw [edV_len, HLL.out]
              have hcc : ∀ j, j < (n - r) * 2 → ∃ u, wr.cell? ⟨g, r * 2 + j, none⟩ = some u ∧ wr.frozen? ⟨g, r * 2 + j, none⟩ = false := fun j hj =>
                ⟨(edV L)[r * 2 + j]'(by omega), own_cell HO3.out (r * 2 + j) (List.getElem?_eq_getElem _)⟩
              have hcl : ∀ ty, _ := fun ty => run_clear_edges wr ty g (r * 2) (n - r) (cap - r) (by omega) (fun j hj => by obtain ⟨u, h1, _⟩ := hcc j hj; rw [h1]; rfl) (fun j hj => by obtain ⟨u, _, h1⟩ := hcc j hj; exact h1)
              have hrc : r ≤ cap := by have := own_le HO3.out; omega
              have hnc := own_le HO3.out
              clear hcc hLn
              go_wp2_with fail
              go_ret
              exact ⟨r, L.take r, by simp, fun x hx => HLE.out x (List.mem_of_mem_take hx), by omega, by omega, own_tail HO3.out (by omega) (by simp; omega), grown_trans HX3.out (grown_sets g _ _ _)⟩
        · by_cases h1 : x1 = y1
          · subst h1
            have h2' : x2 ≠ y2 := fun h => he ⟨rfl, h⟩
            have t0 : (x2 == y2) = false := by simpa using h2'
            clear h2' he
            go_wp2_with fail
            go_quiet (fail)
            have HX2 := hide (grown_drewN HXW.out nq)
            have HO2 := hide (show (wr.drewN nq).ownsRow base 24 2 (.slice (some ⟨g, 0, none⟩) n cap) n (edV E) from HOW.out)
            go_wp2_with fail
            go_roundw
            case rel => exact ⟨i + 1, by omega, by omega, by go_num, HO2.out, HX2.out⟩
            case measure => simp [intOf]; omega
          · have t0 : (x1 == y1) = false := by simpa using h1
            clear h1 he
            go_wp2_with fail
            go_quiet (fail)
            have HX2 := hide (grown_drewN HXW.out nq)
            have HO2 := hide (show (wr.drewN nq).ownsRow base 24 2 (.slice (some ⟨g, 0, none⟩) n cap) n (edV E) from HOW.out)
            go_wp2_with fail
            go_roundw
            case rel => exact ⟨i + 1, by omega, by omega, by go_num, HO2.out, HX2.out⟩
            case measure => simp [intOf]; omega
      · obtain rfl : i = n := by omega
        go_wp2_with fail
        go_ret
        exact ⟨i, E, rfl, fun x hx => hx, fun h => h, Nat.le_refl _, HOW.out, HXW.out⟩
end Go.Proofs.Ytngdhpjbfcgloaa
