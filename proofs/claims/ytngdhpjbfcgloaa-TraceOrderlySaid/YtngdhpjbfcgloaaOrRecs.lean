/- The contracts of ringkeep4.records and trace.checked. -/
import Derived.Test.YtngdhpjbfcgloaaTraceCode
import Derived.Test.YtngdhpjbfcgloaaRest
namespace Go.Proofs.Ytngdhpjbfcgloaa
open Go.RowKit
set_option linter.unusedVariables false

/-- A number that an int holds. -/
def I64 (n : Int) : Prop := -9223372036854775808 ≤ n ∧ n ≤ 9223372036854775807
structure RecD.Fits (r : RecD) : Prop where
  k : I64 r.k
  c : I64 r.c
  t : I64 r.t
  o : I64 r.o
/-- A raw record, made one that may be. -/
def normR (r : RecD) : RecD := ⟨1 + restZ r.k 9, restZ r.c 4, 1 + restZ r.t 4, restZ r.o 6⟩
theorem normR_ok (r : RecD) : (normR r).Ok := by
  have a1 := restZ_lo r.k 9 (by omega); have a2 := restZ_hi r.k 9 (by omega)
  have b1 := restZ_lo r.c 4 (by omega); have b2 := restZ_hi r.c 4 (by omega)
  have c1 := restZ_lo r.t 4 (by omega); have c2 := restZ_hi r.t 4 (by omega)
  have d1 := restZ_lo r.o 6 (by omega); have d2 := restZ_hi r.o 6 (by omega)
  constructor <;> (simp only [normR]; omega)
def normT (l : List RecD) : List RecD := (l.take 60).map normR
theorem normT_ok (l : List RecD) : ∀ r ∈ normT l, r.Ok := by
  intro r hr
  obtain ⟨x, _, rfl⟩ := List.mem_map.1 hr
  exact normR_ok x
theorem normT_take_lt (l : List RecD) (k : Nat) (hk : k < l.length) (h60 : k < 60) : normT (l.take (k + 1)) = normT (l.take k) ++ [normR l[k]] := by
  simp only [normT, List.take_take]
  rw [Nat.min_eq_right (show k + 1 ≤ 60 by omega), Nat.min_eq_right (show k ≤ 60 by omega), List.take_succ_eq_append_getElem hk, List.map_append]
  rfl
theorem normT_take_ge (l : List RecD) (k : Nat) (h60 : 60 ≤ k) : normT (l.take (k + 1)) = normT (l.take k) := by
  simp only [normT, List.take_take]
  rw [Nat.min_eq_left (by omega), Nat.min_eq_left (by omega)]
theorem normT_len (l : List RecD) (k : Nat) (hk : k ≤ l.length) : (normT (l.take k)).length = min k 60 := by
  simp [normT]; omega

/-- The loop of records. -/
def RecsRel (l : List RecD) (w : World) (n : Nat) (out i : Value) (wr : World) : Prop :=
  ∃ (k m : Nat) (A : Option Addr) (c : Nat), k ≤ n ∧ Hid (m = min k 60) ∧ i = .int .i64 k ∧ out = .slice A m c ∧ wr.ownsRow w.heap.size 37 4 (.slice A m c) m (recsV (normT (l.take k))) ∧ Ext w wr

set_option maxHeartbeats 2000000 in
set_option maxRecDepth 100000 in
theorem records_any (l : List RecD) (fits : ∀ r ∈ l, r.Fits) (A : Option Addr) (n c B : Nat) (w : World) (hr : Reads w B 4 A n (recsV l)) (hB : B ≤ w.heap.size) (hn : l.length = n) (hnc : n ≤ c) (hc : c ≤ maxLen) :
    Calls Try.prog 9 #[.slice A n c] w fun e w' =>
      ∃ m A' c', m = min n 60 ∧ e = .returned (.slice A' m c') ∧ w'.ownsRow w.heap.size 37 4 (.slice A' m c') m (recsV (normT l)) ∧ Ext w w' := by
  obtain ⟨i0, hi0, hz0, hz1, hz2⟩ := info_parts rec_info
  unfold maxLen at hc
  have HR := hide hr
  have HN := hide hn
  have HF := hide fits
  clear hr hn fits
  go_enter Try.func9, Try.ntmps9
  go_wp2
  go_loopw [3, 8] (RecsRel l w n) (fun _ i _ => n - (intOf i).toNat)
  case atStart => exact ⟨0, 0, none, 0, Nat.zero_le _, rfl, rfl, rfl, World.ownsRow_nil _ _ _ _, Ext.refl _⟩
  case round =>
    obtain ⟨k, m, A1, c1, hk, hm, rfl, rfl, ho, hx⟩ := hrel
    have HRk := hide (hx.reads HR.out hB)
    by_cases hlt : k < n
    · obtain ⟨b, off, rfl, hb⟩ := reads4_addr HRk.out (by omega)
      have hkl : k < l.length := by rw [HN.out]; exact hlt
      obtain ⟨q0, q1, q2, q3⟩ := rec_cells HRk.out k hlt hkl
      obtain ⟨f1, f2, f3, f4⟩ := HF.out l[k] (List.getElem_mem hkl)
      have HT := hide (normT_take_lt l k hkl)
      generalize l[k] = r at *
      obtain ⟨rk, rc, rt, ro⟩ := r
      dsimp only at q0 q1 q2 q3 f1 f2 f3 f4
      have hk0 : (0 : Int) ≤ (k : Int) := by omega
      have hk1 : (k : Int) < (n : Int) := by omega
      by_cases h60 : k < 60
      · go_upto_region 6 with fail
        obtain ⟨W, hW⟩ : ∃ W, W = wr.alloc (recBox rk rc rt ro) := ⟨_, rfl⟩
        rw [← hW]
        have hxW : Ext wr W := by rw [hW]; ((repeat (first | with_reducible exact Ext.refl _ | with_reducible assumption | with_reducible refine Ext.alloc ?_ _ | with_reducible refine Ext.drew ?_ | with_reducible refine Ext.drewN ?_ _ | with_reducible refine Ext.setCell ?_ (by first | exact Nat.le_refl _ | assumption | (simp; done) | omega) _ | with_reducible refine Ext.trans ?_ (by with_reducible assumption))); done)
        have hbW : Blk W wr.heap.size 37 #[.int .i64 rk, .int .i64 rc, .int .i64 rt, .int .i64 ro] := by rw [hW]; ((repeat (first | (with_reducible refine Blk.new' _ _ _ ?_; first | rfl | simp) | with_reducible assumption | with_reducible refine Blk.alloc ?_ _ | with_reducible refine Blk.drew ?_ | with_reducible refine Blk.drewN ?_ _ | with_reducible refine Blk.ext ?_ (by with_reducible assumption))); done)
        clear hW
        have p0 : W.cell? ⟨wr.heap.size, 0, none⟩ = some (.int .i64 rk) := hbW.cell 0
        have p1 : W.cell? ⟨wr.heap.size, 1, none⟩ = some (.int .i64 rc) := hbW.cell 1
        have p2 : W.cell? ⟨wr.heap.size, 2, none⟩ = some (.int .i64 rt) := hbW.cell 2
        have p3 : W.cell? ⟨wr.heap.size, 3, none⟩ = some (.int .i64 ro) := hbW.cell 3
        have a1 := restZ_lo rk 9 (by omega); have a2 := restZ_hi rk 9 (by omega)
        have c1' := restZ_lo rt 4 (by omega); have c2' := restZ_hi rt 4 (by omega)
        have v1 : IntKind.i64.wrap (1 + restZ rk 9) = 1 + restZ rk 9 := by rw [IntKind.wrap_i64]; omega
        have v2 : IntKind.i64.wrap (1 + restZ rt 4) = 1 + restZ rt 4 := by rw [IntKind.wrap_i64]; omega
        have HXW := hide (hx.trans hxW)
        have hbW2 := (Blk.new W 37 #[.int .i64 (1 + restZ rk 9), .int .i64 (restZ rc 4), .int .i64 (1 + restZ rt 4), .int .i64 (restZ ro 6)]).drew
        have hm60 : m ≤ 60 := by have := hm.out; omega
        go_region_held3 (fun w' => w'.cell? ⟨wr.heap.size, 0, none⟩ = some (.int .i64 rk) ∧ w'.cell? ⟨wr.heap.size, 1, none⟩ = some (.int .i64 rc) ∧ w'.cell? ⟨wr.heap.size, 2, none⟩ = some (.int .i64 rt) ∧ w'.cell? ⟨wr.heap.size, 3, none⟩ = some (.int .i64 ro))
          (first | (refine ⟨?_, ?_, ?_, ?_⟩ <;> (refine Ext.cell (w := W) ?_ (by assumption); ((repeat (first | with_reducible exact Ext.refl _ | with_reducible assumption | with_reducible refine Ext.alloc ?_ _ | with_reducible refine Ext.drew ?_ | with_reducible refine Ext.drewN ?_ _ | with_reducible refine Ext.setCell ?_ (by first | exact Nat.le_refl _ | assumption | (simp; done) | omega) _ | with_reducible refine Ext.trans ?_ (by with_reducible assumption))); done))) | (refine ⟨?_, ?_, ?_, ?_⟩ <;> (refine hg4.cell (Ext.cell (w := W) (by ((repeat (first | with_reducible exact Ext.refl _ | with_reducible assumption | with_reducible refine Ext.alloc ?_ _ | with_reducible refine Ext.drew ?_ | with_reducible refine Ext.drewN ?_ _ | with_reducible refine Ext.setCell ?_ (by first | exact Nat.le_refl _ | assumption | (simp; done) | omega) _ | with_reducible refine Ext.trans ?_ (by with_reducible assumption))); done)) (by assumption)) (fun e => by have := (ho.lt _ e.symm).2; simp at this))) | fail)
          (first
            | (go_at_call_of 5 (Value.int .i64 rk); refine (rest_any _ 9 _ f1.1 f1.2 (by omega) (by omega)).mono ?_; rintro e w' ⟨rfl, rfl⟩)
            | (go_at_call_of 5 (Value.int .i64 rc); refine (rest_any _ 4 _ f2.1 f2.2 (by omega) (by omega)).mono ?_; rintro e w' ⟨rfl, rfl⟩)
            | (go_at_call_of 5 (Value.int .i64 rt); refine (rest_any _ 4 _ f3.1 f3.2 (by omega) (by omega)).mono ?_; rintro e w' ⟨rfl, rfl⟩)
            | (go_at_call_of 5 (Value.int .i64 ro); refine (rest_any _ 6 _ f4.1 f4.2 (by omega) (by omega)).mono ?_; rintro e w' ⟨rfl, rfl⟩)
            | (refine step_append_any _ (by rfl) (.tmp 15) (.tmp 31) 33 (by rfl) w.heap.size 37 i0 _ 4 32 Try.underlying33 hi0 hz0 hz1 hz2 rfl (by omega) (.slice A1 m c1) m (recsV (normT (l.take k))) (by rfl) (Ext.own (w := wr) (by ((repeat (first | with_reducible exact Ext.refl _ | with_reducible assumption | with_reducible refine Ext.alloc ?_ _ | with_reducible refine Ext.drew ?_ | with_reducible refine Ext.drewN ?_ _ | with_reducible refine Ext.setCell ?_ (by first | exact Nat.le_refl _ | assumption | (simp; done) | omega) _ | with_reducible refine Ext.trans ?_ (by with_reducible assumption))); done)) ho) _ (some ⟨W.heap.size, 0, none⟩) 1 1 [.int .i64 (1 + restZ rk 9), .int .i64 (restZ rc 4), .int .i64 (1 + restZ rt 4), .int .i64 (restZ ro 6)] (by rfl) (Blk.reads4 (by with_reducible exact hbW2)) (by simp [Value.oneCell']) (by simp only [maxLen]; omega) (by omega) (Nat.le_trans HXW.out.size (Ext.size (w := W) (by ((repeat (first | with_reducible exact Ext.refl _ | with_reducible assumption | with_reducible refine Ext.alloc ?_ _ | with_reducible refine Ext.drew ?_ | with_reducible refine Ext.drewN ?_ _ | with_reducible refine Ext.setCell ?_ (by first | exact Nat.le_refl _ | assumption | (simp; done) | omega) _ | with_reducible refine Ext.trans ?_ (by with_reducible assumption))); done)))) ?_; intro A4 c4 w4 ho4 hg4 ha4)
            | fail)
        clear v1 v2 hbW2 p0 p1 p2 p3
        have hx4 : Ext w w4 := Ext.grown ((HXW.out.alloc _).drew) hg4 (fun k hk => (ho.lt k hk).1)
        go_wp2_with fail
        go_roundw
        case rel => exact ⟨k + 1, m + 1, A4, c4, by omega, by have := hm.out; show m + 1 = min (k + 1) 60; omega, by go_num, rfl, by rw [HT.out h60, recsV_append]; exact ho4, hx4⟩
        case measure => simp [intOf]; omega
      · have HXW := hide (hx.alloc (recBox rk rc rt ro))
        have HOW := hide (((Ext.refl wr).alloc (recBox rk rc rt ro)).own ho)
        go_wp2_with fail
        go_roundw
        case rel => exact ⟨k + 1, m, A1, c1, by omega, by have := hm.out; show m = min (k + 1) 60; omega, by go_num, rfl, by rw [normT_take_ge l k (by omega)]; exact HOW.out, HXW.out⟩
        case measure => simp [intOf]; omega
    · obtain rfl : k = n := by omega
      go_wp2
      go_ret
      exact ⟨m, A1, c1, hm.out, rfl, by have := ho; rw [List.take_of_length_le (by rw [HN.out]; exact Nat.le_refl _)] at this; exact this, hx⟩
theorem checked_ok (l : List RecD) (ok : ∀ r ∈ l, r.Ok) (A : Option Addr) (n c B : Nat) (w : World) (hr : Reads w B 4 A n (recsV l)) (hB : B ≤ w.heap.size) (hn : l.length = n) (h400 : n ≤ 400) (hc : n ≤ c) :
    Calls Try.prog 15 #[.slice A n c] w fun e w' => e = .returned (.int .i64 0) ∧ Ext w w' := by
  have H := hide (encode_ok l ok A n c B w hr hB hn h400 hc)
  clear hr ok hn
  go_enter Try.func15, Try.ntmps15
  go_wp2_with fail
  refine H.out.mono ?_
  rintro e w' ⟨A', c', rfl, -, hx⟩
  go_wp2_with fail
  go_ret
  exact ⟨rfl, hx⟩
end Go.Proofs.Ytngdhpjbfcgloaa
