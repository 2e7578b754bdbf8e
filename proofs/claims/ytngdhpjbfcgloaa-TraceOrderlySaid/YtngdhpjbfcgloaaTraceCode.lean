/- Contracts of trace.Check, trace.Encode and trace.Decode. -/
import Derived.Test.YtngdhpjbfcgloaaRows
import Derived.Test.YtngdhpjbfcgloaaTracePlain
import Derived.WalkKit
import Derived.WalkSpells
import Derived.ProofKit
import Derived.OpenShut
import Derived.Deep.QuietTactic
import Derived.BigQuiet
import Derived.Deep.RegionHeld3
import Derived.Deep.DeepCutAuto
import Derived.Laws.MakeOwn
namespace Go.Proofs.Ytngdhpjbfcgloaa
open Go.RowKit
set_option linter.unusedVariables false

theorem u8_info : (Try.prog.info? 5).map (fun i => (i.zero, i.size, i.bytes)) = some (some (.int .u8 0), 1, 1) := by kernel_rfl
theorem rec_info : (Try.prog.info? 37).map (fun i => (i.zero, i.size, i.bytes)) = some (some (.agg #[.int .i64 0, .int .i64 0, .int .i64 0, .int .i64 0]), 4, 32) := by kernel_rfl

abbrev recBox (k c t o : Int) : Obj := .cells #[.int .i64 k, .int .i64 c, .int .i64 t, .int .i64 o] 37

theorem check_ok (k c t o : Int) (w : World) (h1 : 1 ≤ k) (h2 : k ≤ 9) (h3 : 0 ≤ c) (h4 : c ≤ 3) (h5 : 1 ≤ t) (h6 : t ≤ 16) (h7 : 0 ≤ o) (h8 : o ≤ 63) :
    Calls Try.prog 31 #[.agg #[.int .i64 k, .int .i64 c, .int .i64 t, .int .i64 o]] w fun e w' => e = .returned (.int .i64 0) ∧ w.alloc (recBox k c t o) = w' := by
  go_enter Try.func31, Try.ntmps31
  go_wp2
  go_ret
  exact ⟨rfl, rfl⟩
/-- What Check answers to a record that may not be. -/
def BadRec (k c t o : Int) (w : World) (e : Ending) (w' : World) : Prop := ∃ er : Int, er ≠ 0 ∧ e = .returned (.int .i64 er) ∧ w.alloc (recBox k c t o) = w'
theorem check_bad (k c t o : Int) (w : World) (h : ¬ (1 ≤ k ∧ k ≤ 9 ∧ 0 ≤ c ∧ c ≤ 3 ∧ 1 ≤ t ∧ t ≤ 16 ∧ 0 ≤ o ∧ o ≤ 63)) :
    Calls Try.prog 31 #[.agg #[.int .i64 k, .int .i64 c, .int .i64 t, .int .i64 o]] w (BadRec k c t o w) := by
  by_cases h1 : k < 1
  · clear h
    go_enter Try.func31, Try.ntmps31
    go_wp2
    go_ret
    exact ⟨3, by decide, rfl, rfl⟩
  by_cases h2 : 9 < k
  · clear h
    go_enter Try.func31, Try.ntmps31
    go_wp2
    go_ret
    exact ⟨3, by decide, rfl, rfl⟩
  by_cases h3 : c < 0
  · clear h
    go_enter Try.func31, Try.ntmps31
    go_wp2
    go_ret
    exact ⟨1, by decide, rfl, rfl⟩
  by_cases h4 : 4 ≤ c
  · clear h
    go_enter Try.func31, Try.ntmps31
    go_wp2
    go_ret
    exact ⟨1, by decide, rfl, rfl⟩
  by_cases h5 : t < 1
  · clear h
    go_enter Try.func31, Try.ntmps31
    go_wp2
    go_ret
    exact ⟨1, by decide, rfl, rfl⟩
  by_cases h6 : 16 < t
  · clear h
    go_enter Try.func31, Try.ntmps31
    go_wp2
    go_ret
    exact ⟨1, by decide, rfl, rfl⟩
  by_cases h7 : o < 0
  · clear h
    go_enter Try.func31, Try.ntmps31
    go_wp2
    go_ret
    exact ⟨1, by decide, rfl, rfl⟩
  · have h8 : 63 < o := by omega
    clear h
    go_enter Try.func31, Try.ntmps31
    go_wp2
    go_ret
    exact ⟨1, by decide, rfl, rfl⟩

theorem or_i64 (a b : Int) (i : Nat) (ha : 0 ≤ a) (hm : a % 2 ^ i = 0) (ha' : a < 2 ^ 63) (hb : 0 ≤ b) (hb' : b < 2 ^ i) (hb2 : b < 2 ^ 63) : bits .or .i64 a b = a + b :=
  bits_join .i64 63 (by decide) (fun n h₀ h₁ => by rw [IntKind.wrap_i64]; omega) i a b ha hm ha' hb hb' hb2
theorem encR_cells (rk rc rt ro : Int) (o1 : 1 ≤ rk) (o2 : rk ≤ 9) (o3 : 0 ≤ rc) (o4 : rc ≤ 3) (o5 : 1 ≤ rt) (o6 : rt ≤ 16) (o7 : 0 ≤ ro) (o8 : ro ≤ 63) :
    [Value.int .u8 (bits .or .i64 (rk * 4) rc % 256), Value.int .u8 rt, Value.int .u8 ro] = bytesV (encR ⟨rk, rc, rt, ro⟩) := by
  rw [or_i64 (rk * 4) rc 2 (by omega) (by omega) (by omega) (by omega) (by omega) (by omega)]
  simp [bytesV, encR]
  omega

/-- The loop of Encode: so many records are written. -/
def EncRel (l : List RecD) (w : World) (n : Nat) (out i : Value) (wr : World) : Prop :=
  ∃ (k : Nat) (A : Option Addr) (c : Nat), k ≤ n ∧ i = .int .i64 k ∧ out = .slice A (3 * k) c ∧ wr.ownsRow w.heap.size 5 1 (.slice A (3 * k) c) (3 * k) (bytesV (encT (l.take k))) ∧ Ext w wr

set_option maxHeartbeats 1000000 in
set_option maxRecDepth 100000 in
theorem encode_ok (l : List RecD) (ok : ∀ r ∈ l, r.Ok) (A : Option Addr) (n c B : Nat) (w : World) (hr : Reads w B 4 A n (recsV l)) (hB : B ≤ w.heap.size) (hn : l.length = n) (h400 : n ≤ 400) (hc : n ≤ c) :
    Calls Try.prog 26 #[.slice A n c] w fun e w' =>
      ∃ A' c', e = .returned (.tuple #[.slice A' (3 * n) c', .int .i64 0]) ∧ w'.ownsRow w.heap.size 5 1 (.slice A' (3 * n) c') (3 * n) (bytesV (encT l)) ∧ Ext w w' := by
  obtain ⟨i0, hi0, hz0, hz1, hz2⟩ := info_parts u8_info
  have hmk : ∀ W : World, (Instr.makeSlice 54 (.int .i64 0) (.int .i64 (3 * (n : Int)))).run Try.prog W = .ok (.slice (some ⟨W.heap.size, 0, none⟩) 0 (3 * n)) (W.alloc (.cells (madeCells #[.int .u8 0] (3 * n)) 5)) := by
    intro W
    have := run_make W 54 5 i0 (.int .u8 0) Try.underlying54 hi0 hz0 .i64 .i64 0 (3 * (n : Int)) (by omega) (by omega) (by rw [hz2]; omega) (by omega)
    rw [hz1] at this
    have e : (3 * (n : Int)).toNat = 3 * n := by omega
    rw [e, Nat.mul_one] at this
    exact this
  have HR := hide hr
  have HN := hide hn
  clear hr hn
  go_enter Try.func26, Try.ntmps26
  go_wp2
  obtain ⟨W, hW⟩ : ∃ W, W = w.alloc (.cells (madeCells #[.int .u8 0] (3 * n)) 5) := ⟨_, rfl⟩
  have hxW : Ext w W := by rw [hW]; ((repeat (first | with_reducible exact Ext.refl _ | with_reducible assumption | with_reducible refine Ext.alloc ?_ _ | with_reducible refine Ext.drew ?_ | with_reducible refine Ext.drewN ?_ _ | with_reducible refine Ext.setCell ?_ (by first | exact Nat.le_refl _ | assumption | (simp; done) | omega) _ | with_reducible refine Ext.trans ?_ (by with_reducible assumption))); done)
  have hoW : W.ownsRow w.heap.size 5 1 (.slice (some ⟨w.heap.size, 0, none⟩) 0 (3 * n)) 0 [] := by rw [hW]; exact World.ownsRow_made w _ _ (Nat.le_refl _) (by simp only [maxLen]; omega) (by simp [madeCells])
  rw [← hW]
  clear hW
  go_loopw [4, 17] (EncRel l w n) (fun _ i _ => n - (intOf i).toNat)
  case atStart => exact ⟨0, _, _, Nat.zero_le _, rfl, rfl, hoW, hxW⟩
  case round =>
    obtain ⟨k, A1, c1, hk, rfl, rfl, ho, hx⟩ := hrel
    have HRk := hide (hx.reads HR.out hB)
    by_cases hlt : k < n
    · obtain ⟨b, off, rfl, hb⟩ := reads4_addr HRk.out (by omega)
      have hkl : k < l.length := by rw [HN.out]; exact hlt
      obtain ⟨q0, q1, q2, q3⟩ := rec_cells HRk.out k hlt hkl
      obtain ⟨o1, o2, o3, o4, o5, o6, o7, o8⟩ := ok l[k] (List.getElem_mem hkl)
      have HT := hide (show l.take (k + 1) = l.take k ++ [l[k]] from List.take_succ_eq_append_getElem hkl)
      generalize l[k] = r at *
      obtain ⟨rk, rc, rt, ro⟩ := r
      dsimp only at o1 o2 o3 o4 o5 o6 o7 o8 q0 q1 q2 q3
      have hk0 : (0 : Int) ≤ (k : Int) := by omega
      have hk1 : (k : Int) < (n : Int) := by omega
      go_wp2_with fail
      refine (check_ok rk rc rt ro _ o1 o2 o3 o4 o5 o6 o7 o8).mono ?_
      rintro e w' ⟨rfl, rfl⟩
      obtain ⟨W2, hW2⟩ : ∃ W2, W2 = (wr.alloc (recBox rk rc rt ro)).alloc (recBox rk rc rt ro) := ⟨_, rfl⟩
      rw [← hW2]
      have hx2 : Ext wr W2 := by rw [hW2]; ((repeat (first | with_reducible exact Ext.refl _ | with_reducible assumption | with_reducible refine Ext.alloc ?_ _ | with_reducible refine Ext.drew ?_ | with_reducible refine Ext.drewN ?_ _ | with_reducible refine Ext.setCell ?_ (by first | exact Nat.le_refl _ | assumption | (simp; done) | omega) _ | with_reducible refine Ext.trans ?_ (by with_reducible assumption))); done)
      have hb2 : Blk W2 wr.heap.size 37 #[.int .i64 rk, .int .i64 rc, .int .i64 rt, .int .i64 ro] := by rw [hW2]; exact (Blk.new _ _ _).alloc _
      clear hW2
      have p0 : W2.cell? ⟨wr.heap.size, 0, none⟩ = some (.int .i64 rk) := hb2.cell 0
      have p1 : W2.cell? ⟨wr.heap.size, 1, none⟩ = some (.int .i64 rc) := hb2.cell 1
      have p2 : W2.cell? ⟨wr.heap.size, 2, none⟩ = some (.int .i64 rt) := hb2.cell 2
      have p3 : W2.cell? ⟨wr.heap.size, 3, none⟩ = some (.int .i64 ro) := hb2.cell 3
      have ho2 := hx2.own ho
      clear q0 q1 q2 q3
      have ho3 := ((Ext.refl W2).alloc (.cells #[.int .u8 (bits .or .i64 (rk * 4) rc % 256), .int .u8 rt, .int .u8 ro] 5)).own ho2
      have hbn : Blk (W2.alloc (.cells #[.int .u8 (bits .or .i64 (rk * 4) rc % 256), .int .u8 rt, .int .u8 ro] 5)) W2.heap.size 5 #[.int .u8 (bits .or .i64 (rk * 4) rc % 256), .int .u8 rt, .int .u8 ro] := Blk.new _ _ _
      have HXW := hide (hx.trans hx2)
      go_wp2_with (at_builtin; refine wpList_append_any _ rfl (.tmp 26) (.tmp 40) _ rfl w.heap.size 5 i0 _ 1 1 Try.underlying54 hi0 hz0 hz1 hz2 rfl (by omega) _ (3 * k) _ rfl ho3 _ _ 3 3 _ rfl hbn.reads (by simp [Value.oneCell']) (by simp only [maxLen]; omega) (by omega) (by simp; have := HXW.out.size; omega) ?_; intro A4 c4 w4 ho4 hg4 ha4)
      have hx4 : Ext w w4 := ((HXW.out.alloc _).grown hg4 (fun k hk => (ho.lt k hk).1))
      have ho5 : w4.ownsRow w.heap.size 5 1 (.slice A4 (3 * (k + 1)) c4) (3 * (k + 1)) (bytesV (encT (l.take (k + 1)))) := by
        rw [HT.out, encT_append, bytesV_append]
        have e1 : encT [(⟨rk, rc, rt, ro⟩ : RecD)] = encR ⟨rk, rc, rt, ro⟩ := by simp [encT]
        rw [e1, ← encR_cells rk rc rt ro o1 o2 o3 o4 o5 o6 o7 o8]
        exact ho4
      clear ho4 ho3 hbn ho2 ha4 hg4 p0 p1 p2 p3
      go_roundw
      case rel => exact ⟨k + 1, A4, c4, by omega, by go_num, by rw [show 3 * (k + 1) = 3 * k + 3 from by omega], ho5, hx4⟩
      case measure => simp [intOf]; omega
    · obtain rfl : k = n := by omega
      go_wp2
      go_ret2
      exact ⟨A1, c1, rfl, by have := ho; rw [List.take_of_length_le (by rw [HN.out]; exact Nat.le_refl _)] at this; exact this, hx⟩
end Go.Proofs.Ytngdhpjbfcgloaa
