/- slices.Index on numbers. Plain theorems, no condition. -/
import Derived.Test.YtngdhpjbfcgloaaRows
import Derived.Test.YtngdhpjbfcgloaaIntsV
import Derived.Test.YtngdhpjbfcgloaaIntsK
import Derived.Test.YtngdhpjbfcgloaaNext
import Derived.WalkKit
import Derived.WalkSpells
import Derived.Deep.LoopGhost
namespace Go.Proofs.Ytngdhpjbfcgloaa
open Go.RowKit
set_option linter.unusedVariables false

/-- Where a number stands first. -/
def IdxOf (xs : List Int) (v : Int) (z : Int) : Prop := (∃ i : Nat, ∃ h : i < xs.length, z = i ∧ xs[i] = v ∧ ∀ j (hj : j < xs.length), j < i → xs[j] ≠ v) ∨ (z = -1 ∧ v ∉ xs)
def IdxPost (w : World) (xs : List Int) (v : Int) (e : Ending) (w' : World) : Prop := ∃ z : Int, e = .returned (.int .i64 z) ∧ IdxOf xs v z ∧ w = w'
def IdxRel (xs : List Int) (v : Int) (n : Nat) (i : Value) : Prop := ∃ k : Nat, k ≤ n ∧ i = .int .i64 k ∧ ∀ j (hj : j < xs.length), j < k → xs[j] ≠ v
theorem index_ints (A : Option Addr) (n c B : Nat) (xs : List Int) (v : Int) (w : World) (hx : Reads w B 1 A n (intsV xs)) (hn : n ≤ maxLen) :
    Calls Try.prog 14 #[.slice A n c, .int .i64 v] w (IdxPost w xs v) := by
  unfold maxLen at hn
  have lx : xs.length = n := by have := hx.1; rw [intsV_length] at this; omega
  have LX := hide lx
  have HX := hide hx
  clear lx hx
  go_enter Try.func14, Try.ntmps14
  go_wp2_with fail
  go_loop [8] (IdxRel xs v n) (fun i => n - (intOf i).toNat)
  case atStart => exact ⟨0, Nat.zero_le _, rfl, fun j _ h => absurd h (by omega)⟩
  case round =>
    obtain ⟨k, hk, rfl, hne⟩ := hrel
    have HNE := hide hne
    clear hne
    by_cases hlt : k < n
    · obtain ⟨b, off, rfl, -, -⟩ := HX.out.at1 (by omega)
      have hkl : k < xs.length := by rw [LX.out]; exact hlt
      have g1 : w.cell? ⟨b, off + k, none⟩ = some (.int .i64 (xs.getD k 0)) := cells_ints HX.out k hlt
      have HG := hide (show xs.getD k 0 = xs[k] by simp [List.getD_eq_getElem?_getD, hkl])
      generalize xs.getD k 0 = x at g1 HG
      by_cases he : v = x
      · have t1 : (v == x) = true := by simpa using he
        have HE := hide he
        clear he
        go_wp2_with fail
        go_ret
        exact ⟨k, rfl, .inl ⟨k, hkl, rfl, by rw [← HG.out, HE.out], HNE.out⟩, rfl⟩
      · have t1 : (v == x) = false := by simpa using he
        go_wp2_with fail
        go_round
        case rel => exact ⟨k + 1, by omega, by go_num, fun j hj hjk => by
          by_cases e : j = k
          · subst e; rw [← HG.out]; exact fun h => he h.symm
          · exact HNE.out j hj (by omega)⟩
        case measure => simp [intOf]; omega
    · obtain rfl : k = n := by omega
      go_wp2_with fail
      go_ret
      exact ⟨-1, rfl, .inr ⟨rfl, fun hm => by obtain ⟨j, hj, e⟩ := List.getElem_of_mem hm; exact HNE.out j hj (by rw [← LX.out]; exact hj) e⟩, rfl⟩

def EIdxRel (w : World) (l : List EdgeD) (v : EdgeD) (n : Nat) (i : Value) (wr : World) : Prop := ∃ k : Nat, k ≤ n ∧ i = .int .i64 k ∧ v ∈ l.drop k ∧ Ext w wr
set_option maxHeartbeats 4000000 in
set_option maxRecDepth 100000 in
theorem index_edge (l : List EdgeD) (v : EdgeD) (hv : v ∈ l) (A : Option Addr) (n c B : Nat) (w : World) (hr : Reads w B 2 A n (edgesV l)) (hB : B ≤ w.heap.size) (hn : n ≤ 1000) :
    Calls Try.prog 13 #[.slice A n c, .agg #[.int .i64 (v.1 : Int), .int .i64 (v.2 : Int)]] w fun e w' => ∃ z : Int, e = .returned (.int .i64 z) ∧ 0 ≤ z ∧ Ext w w' := by
  obtain ⟨v1, v2⟩ := v
  have HLE := hide (show l.length = n from flat_len edgeC_len (by omega) hr)
  have HR := hide hr
  have HV := hide hv
  have HX0 := hide ((Ext.refl w).alloc (.cells #[.int .i64 (v1 : Int), .int .i64 (v2 : Int)] 24))
  have HB0 := hide (Blk.new w 24 #[.int .i64 (v1 : Int), .int .i64 (v2 : Int)])
  have HR1 := hide (HX0.out.reads HR.out hB)
  have HBS := hide (Nat.le_trans hB HX0.out.size)
  clear hr hv HR
  go_enter Try.func13, Try.ntmps13
  go_wp2_with fail
  generalize w.alloc (.cells #[.int .i64 (v1 : Int), .int .i64 (v2 : Int)] 24) = w1 at *
  generalize w.heap.size = gv at *
  go_loopw [8] (EIdxRel w1 l (v1, v2) n) (fun i _ => n - (intOf i).toNat)
  case atStart => exact ⟨0, Nat.zero_le _, rfl, HV.out, Ext.refl _⟩
  case round =>
    obtain ⟨k, hk, rfl, hvk, hx⟩ := hrel
    have HX := hide hx
    clear hx
    by_cases hlt : k < n
    · obtain ⟨b, off, rfl, hb⟩ := HR1.out.addr (by omega) (by omega)
      have hkl : k < l.length := by rw [HLE.out]; exact hlt
      obtain ⟨q0, q1⟩ := edge_cells (HX.out.reads HR1.out HBS.out) k hlt hkl
      have hbx := HB0.out.ext HX.out
      have p0 : wr.cell? ⟨gv, 0, none⟩ = some (.int .i64 (v1 : Int)) := hbx.cell 0
      have p1 : wr.cell? ⟨gv, 1, none⟩ = some (.int .i64 (v2 : Int)) := hbx.cell 1
      rw [List.drop_eq_getElem_cons hkl] at hvk
      generalize l[k] = ed at *
      obtain ⟨e1, e2⟩ := ed
      dsimp only at q0 q1
      have hk0 : (0 : Int) ≤ (k : Int) := by omega
      have hk1 : (k : Int) < (n : Int) := by omega
      by_cases he : v1 = e1 ∧ v2 = e2
      · obtain ⟨rfl, rfl⟩ := he
        clear hvk hbx
        go_wp2_with fail
        go_quiet (fail)
        have HX2 := hide (HX0.out.trans (HX.out.drewN nq))
        go_wp2_with fail
        go_ret
        exact ⟨(k : Int), rfl, by omega, HX2.out⟩
      · have hvk2 : (v1, v2) ∈ l.drop (k + 1) := by
          rcases List.mem_cons.1 hvk with e | h
          · injection e with e1 e2
            exact absurd ⟨e1, e2⟩ he
          · exact h
        have HVK := hide hvk2
        have HE := hide he
        by_cases h1 : v1 = e1
        · subst h1
          have h2 : v2 ≠ e2 := fun h => he ⟨rfl, h⟩
          have t0 : (v2 == e2) = false := by simpa using h2
          have t1 : ((v2 : Int) == (e2 : Int)) = false := by simp; omega
          clear h2
          clear hvk hbx hvk2 he
          go_wp2_with fail
          go_quiet (fail)
          have HX2 := hide (HX.out.drewN nq)
          go_wp2_with fail
          go_roundw
          case rel => exact ⟨k + 1, by omega, by go_num, HVK.out, HX2.out⟩
          case measure => simp [intOf]; omega
        · have t0 : (v1 == e1) = false := by simpa using h1
          have t1 : ((v1 : Int) == (e1 : Int)) = false := by simp; omega
          clear h1
          clear hvk hbx hvk2 he
          go_wp2_with fail
          go_quiet (fail)
          have HX2 := hide (HX.out.drewN nq)
          go_wp2_with fail
          go_roundw
          case rel => exact ⟨k + 1, by omega, by go_num, HVK.out, HX2.out⟩
          case measure => simp [intOf]; omega
    · obtain rfl : n = k := by omega
      rw [List.drop_of_length_le (by rw [HLE.out]; exact Nat.le_refl _)] at hvk
      cases hvk
set_option maxHeartbeats 4000000 in
theorem has_edge (l : List EdgeD) (v : EdgeD) (hv : v ∈ l) (A : Option Addr) (n c B : Nat) (w : World) (hr : Reads w B 2 A n (edgesV l)) (hB : B ≤ w.heap.size) (hn : n ≤ 1000) :
    Calls Try.prog 7 #[.slice A n c, .agg #[.int .i64 (v.1 : Int), .int .i64 (v.2 : Int)]] w fun e w' => e = .returned (.bool true) ∧ Ext w w' := by
  have HX0 := hide ((Ext.refl w).alloc (.cells #[.int .i64 (v.1 : Int), .int .i64 (v.2 : Int)] 24))
  have H := hide (index_edge l v hv A n c B (w.alloc (.cells #[.int .i64 (v.1 : Int), .int .i64 (v.2 : Int)] 24)) (HX0.out.reads hr hB) (Nat.le_trans hB HX0.out.size) hn)
  clear hr hv hB
  obtain ⟨v1, v2⟩ := v
  go_enter Try.func7, Try.ntmps7
  go_wp2_with fail
  refine H.out.mono ?_
  rintro e w' ⟨z, rfl, h0, hx⟩
  have HX := hide (HX0.out.trans hx)
  clear hx
  go_wp2_with fail
  go_ret
  exact ⟨rfl, HX.out⟩
theorem has_not (A : Option Addr) (n c B : Nat) (xs : List Nat) (v : Nat) (w : World) (hx : Reads w B 1 A n (natsV xs)) (hn : n ≤ maxLen) (hv : v ∉ xs) :
    Calls Try.prog 8 #[.slice A n c, .int .i64 (v : Int)] w fun e w' => e = .returned (.bool false) ∧ w = w' := by
  have H := hide (index_ints A n c B (castN xs) (v : Int) w (by rw [← natsV_cast]; exact hx) hn)
  have HV := hide hv
  clear hx hn hv
  go_enter Try.func8, Try.ntmps8
  go_wp2_with fail
  refine H.out.mono ?_
  rintro e w' ⟨z, rfl, hz, rfl⟩
  have h0 : z = -1 := by
    rcases hz with ⟨i, hi, rfl, h, _⟩ | ⟨h, _⟩
    · exfalso
      have hm : (v : Int) ∈ castN xs := by rw [← h]; exact List.getElem_mem hi
      obtain ⟨u, hu, e⟩ := List.mem_map.1 hm
      have : u = v := by omega
      subst this
      exact HV.out hu
    · exact h
  subst h0
  clear hz
  go_wp2_with fail
  go_ret
  exact ⟨rfl, rfl⟩
end Go.Proofs.Ytngdhpjbfcgloaa
