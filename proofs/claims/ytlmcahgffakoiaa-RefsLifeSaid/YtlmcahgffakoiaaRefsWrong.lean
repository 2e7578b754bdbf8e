/- The contract of refs.Wrong. Printed by gen_wrong.py. -/
import Derived.Test.YtlmcahgffakoiaaRefsCounts
namespace Go.Proofs.Ytlmcahgffakoiaa
open Go.RowKit
set_option linter.unusedVariables false

def RWRel (w : World) (l : List RecD) (n g : Nat) (i : Value) (wr : World) : Prop := ∃ k : Nat, k ≤ n ∧ i = .int .i64 k ∧ CleanS l k ∧ IA wr g (stS (l.take k)).held ∧ BA wr (g + 1) (stS (l.take k)).later ∧ BA wr (g + 2) (stS (l.take k)).there ∧ Ext w wr
def RWPost (w : World) (l : List RecD) (e : Ending) (w' : World) : Prop :=
  ((e = .returned (.tuple #[.int .i64 0, .int .i64 4]) ∧ CleanS l l.length) ∨ (∃ i : Nat, ∃ h : i < l.length, e = .returned (.tuple #[.int .i64 i, .int .i64 0]) ∧ CleanS l i ∧ okS (stS (l.take i)) l[i] = false)) ∧ Ext w w'

set_option maxHeartbeats 8000000 in
set_option maxRecDepth 100000 in
theorem rwrong_any (l : List RecD) (ok : ∀ r ∈ l, r.Ok) (A : Option Addr) (n c B : Nat) (w : World) (hr : Reads w B 4 A n (recsV l)) (hB : B ≤ w.heap.size) (hn : l.length = n) (h400 : n ≤ 400) (hc : n ≤ c) :
    Calls Try.prog 13 #[.slice A n c] w (RWPost w l) := by
  have HC := hide (rchecked_ok l ok A n c B w hr hB hn h400 hc)
  have HR := hide hr
  have HK := hide ok
  have HN := hide hn
  clear hr ok hn
  go_enter Try.func13, Try.ntmps13
  go_wp2_with fail
  refine HC.out.mono ?_
  rintro e w1 ⟨rfl, hx1⟩
  have HX1 := hide hx1
  clear hx1 HC
  go_upto_region 6 with fail
  obtain ⟨W, hW⟩ : ∃ W, W = ((w1.alloc (.cells (List.replicate 64 (Value.int .i64 0)).toArray 55)).alloc (.cells (List.replicate 64 (Value.bool false)).toArray 53)).alloc (.cells (List.replicate 64 (Value.bool false)).toArray 53) := ⟨_, rfl⟩
  have HH := hide (show IA W w1.heap.size (fun _ => 0) by rw [hW]; exact (((Blk.new _ _ _).alloc _).alloc _).arr _ rfl)
  have HL := hide (show BA W (w1.heap.size + 1) (fun _ => false) by rw [hW]; exact ((Blk.new' _ _ _ (by simp)).alloc _).arr _ rfl)
  have HT := hide (show BA W (w1.heap.size + 2) (fun _ => false) by rw [hW]; exact (Blk.new' _ _ _ (by simp)).arr _ rfl)
  have HXW := hide (show Ext w W by rw [hW]; exact ((HX1.out.alloc _).alloc _).alloc _)
  simp only [List.replicate] at hW
  rw [← hW]
  have hg1 : w.heap.size ≤ w1.heap.size := HX1.out.size
  clear hW HX1
  generalize w1.heap.size = g at *
  go_wp2_with fail
  go_loopw [18] (RWRel w l n g) (fun i _ => n - (intOf i).toNat)
  case atStart => exact ⟨0, Nat.zero_le _, rfl, (fun i _ h => absurd h (by omega)), HH.out, HL.out, HT.out, HXW.out⟩
  case round =>
    obtain ⟨k, hk, rfl, hcl, hH, hL, hT, hx⟩ := hrel
    clear HT HL HH HXW
    have HCL := hide hcl
    have HT := hide hT
    have HL := hide hL
    have HH := hide hH
    have HX := hide hx
    clear hcl hT hL hH hx
    by_cases hlt : k < n
    · obtain ⟨b, off, rfl, hb⟩ := reads4_addr HR.out (by omega)
      have hkl : k < l.length := by rw [HN.out]; exact hlt
      obtain ⟨q0, q1, q2, q3⟩ := rec_cells (HX.out.reads HR.out hB) k hlt hkl
      obtain ⟨o1, o2, o3, o4, o5, o6, o7, o8⟩ := HK.out l[k] (List.getElem_mem hkl)
      have HS := hide (show stS (l.take (k + 1)) = stepS (stS (l.take k)) l[k] by rw [List.take_succ_eq_append_getElem hkl, stS_snoc])
      have HYES := hide (show okS (stS (l.take k)) l[k] = true → CleanS l (k + 1) from fun h i hi hik => by
        by_cases e : i = k
        · subst e; exact h
        · exact HCL.out i hi (by omega))
      have HNO := hide (show okS (stS (l.take k)) l[k] = false → ∃ i : Nat, ∃ h : i < l.length, Ending.returned (.tuple #[.int .i64 k, .int .i64 0]) = .returned (.tuple #[.int .i64 i, .int .i64 0]) ∧ CleanS l i ∧ okS (stS (l.take i)) l[i] = false from fun h => ⟨k, hkl, rfl, HCL.out, h⟩)
      have hbd := held_bound (l.take k)
      have hbl : (l.take k).length ≤ 400 := by rw [List.length_take]; omega
      generalize l[k] = r at *
      obtain ⟨rk, rc, rt, ro'⟩ := r
      dsimp only at o1 o2 o3 o4 o5 o6 o7 o8 q0 q1 q2 q3
      obtain ⟨ro, rfl⟩ : ∃ o : Nat, ro' = (o : Int) := ⟨ro'.toNat, by omega⟩
      have hro : ro < 64 := by omega
      have hri0 : (0 : Int) ≤ (ro : Int) := by omega
      have hri1 : (ro : Int) < 64 := by omega
      have hb0 := hbd ro
      clear hbd
      generalize stS (l.take k) = s at *
      have hh1 : -400 ≤ s.held ro := by omega
      have hh2 : s.held ro ≤ 400 := by omega
      clear hb0
      have HT2 := hide (HT.out.alloc (recBox rk rc rt ro))
      have HL2 := hide (HL.out.alloc (recBox rk rc rt ro))
      have HH2 := hide (HH.out.alloc (recBox rk rc rt ro))
      have HX2 := hide (HX.out.alloc (recBox rk rc rt ro))
      have hgw : g + 2 < wr.heap.size := HT.out.lt
      go_upto_region 11 with fail
      have hbx : Blk (wr.alloc (recBox rk rc rt ro)) wr.heap.size 27 #[.int .i64 rk, .int .i64 rc, .int .i64 rt, .int .i64 ro] := Blk.new _ _ _
      generalize wr.alloc (recBox rk rc rt ro) = W2 at *
      have p3 : W2.cell? ⟨wr.heap.size, 3, none⟩ = some (.int .i64 ro) := hbx.cell 3
      clear q0 q1 q2 q3 hbx HT HL HH HX
      have c1 : W2.cell? ⟨g, ro, none⟩ = some (.int .i64 (s.held ro)) := HH2.out.cell ro hro
      have c2 : W2.cell? ⟨g + 1, ro, none⟩ = some (.bool (s.later ro)) := HL2.out.cell ro hro
      have c3 : W2.cell? ⟨g + 2, ro, none⟩ = some (.bool (s.there ro)) := HT2.out.cell ro hro
      have c4 := HH2.out.frozen ro
      have c5 := HL2.out.frozen ro
      have c6 := HT2.out.frozen ro
      generalize wr.heap.size = gx at *

      by_cases h5 : rk = 5
      · subst h5
        by_cases hb5 : s.there ro = true
        · have hb5f : s.there ro = true := by simpa using hb5
          have HST := hide (show stepS s ⟨5, rc, rt, ro⟩ = ⟨updN s.there ro true, updN s.later ro false, updN s.held ro (1)⟩ from rfl)
          have HOK := hide (show okS s ⟨5, rc, rt, ro⟩ = false by simp [okS, hb5f])
          rw [hb5f] at c3
          clear hb5 hb5f
          have HX3 := hide (Ext.drew (Ext.setCell (Ext.setCell (Ext.setCell HX2.out (p := ⟨g + 2, ro, none⟩) (by dsimp only; omega) (.bool true)) (p := ⟨g, ro, none⟩) (by dsimp only; omega) (.int .i64 (1))) (p := ⟨g + 1, ro, none⟩) (by dsimp only; omega) (.bool false)))
          go_upto_region 13 with fail
          go_region_held3 (fun w' => w'.cell? ⟨gx, 3, none⟩ = some (.int .i64 ro)) (((repeat (first | assumption | refine cellD ?_ | refine far1 ?_ (by dsimp only; omega) _)); done)) (fail)
          go_wp2_with fail
          go_ret2
          exact ⟨.inr (HNO.out HOK.out), HX3.out⟩
        · have hb5f : s.there ro = false := by simpa using hb5
          have HST := hide (show stepS s ⟨5, rc, rt, ro⟩ = ⟨updN s.there ro true, updN s.later ro false, updN s.held ro (1)⟩ from rfl)
          have HOK := hide (show okS s ⟨5, rc, rt, ro⟩ = true by simp [okS, hb5f])
          rw [hb5f] at c3
          clear hb5 hb5f
          have HH3 := hide (Arr.drew (Arr.far (IA.set (Arr.far HH2.out (p := ⟨g + 2, ro, none⟩) (by dsimp only; omega) (.bool true)) ro hro (1)) (p := ⟨g + 1, ro, none⟩) (by dsimp only; omega) (.bool false)))
          have HL3 := hide (Arr.drew (BA.set (Arr.far (Arr.far HL2.out (p := ⟨g + 2, ro, none⟩) (by dsimp only; omega) (.bool true)) (p := ⟨g, ro, none⟩) (by dsimp only; omega) (.int .i64 (1))) ro hro false))
          have HT3 := hide (Arr.drew (Arr.far (Arr.far (BA.set HT2.out ro hro true) (p := ⟨g, ro, none⟩) (by dsimp only; omega) (.int .i64 (1))) (p := ⟨g + 1, ro, none⟩) (by dsimp only; omega) (.bool false)))
          have HX3 := hide (Ext.drew (Ext.setCell (Ext.setCell (Ext.setCell HX2.out (p := ⟨g + 2, ro, none⟩) (by dsimp only; omega) (.bool true)) (p := ⟨g, ro, none⟩) (by dsimp only; omega) (.int .i64 (1))) (p := ⟨g + 1, ro, none⟩) (by dsimp only; omega) (.bool false)))
          go_upto_region 13 with fail
          go_region_held3 (fun w' => w'.cell? ⟨gx, 3, none⟩ = some (.int .i64 ro)) (((repeat (first | assumption | refine cellD ?_ | refine far1 ?_ (by dsimp only; omega) _)); done)) (fail)
          go_wp2_with fail
          go_roundw
          case rel => exact ⟨k + 1, by omega, by go_num, HYES.out HOK.out, by rw [HS.out, HST.out]; exact HH3.out, by rw [HS.out, HST.out]; exact HL3.out, by rw [HS.out, HST.out]; exact HT3.out, HX3.out⟩
          case measure => simp [intOf]; omega
      by_cases h6 : rk = 6
      · subst h6
        by_cases hp : 0 < s.held ro
        · have hpf : decide (0 < s.held ro) = true := by simpa using hp
          have HST := hide (show stepS s ⟨6, rc, rt, ro⟩ = ⟨s.there, s.later, updN s.held ro (s.held ro + 1)⟩ from rfl)
          have HOK := hide (show okS s ⟨6, rc, rt, ro⟩ = true by simp [okS, hp])
          have HH3 := hide (IA.set HH2.out ro hro (s.held ro + 1))
          have HL3 := hide (Arr.far HL2.out (p := ⟨g, ro, none⟩) (by dsimp only; omega) (.int .i64 (s.held ro + 1)))
          have HT3 := hide (Arr.far HT2.out (p := ⟨g, ro, none⟩) (by dsimp only; omega) (.int .i64 (s.held ro + 1)))
          have HX3 := hide (Ext.setCell HX2.out (p := ⟨g, ro, none⟩) (by dsimp only; omega) (.int .i64 (s.held ro + 1)))
          go_wp2_with fail
          go_roundw
          case rel => exact ⟨k + 1, by omega, by go_num, HYES.out HOK.out, by rw [HS.out, HST.out]; exact HH3.out, by rw [HS.out, HST.out]; exact HL3.out, by rw [HS.out, HST.out]; exact HT3.out, HX3.out⟩
          case measure => simp [intOf]; omega
        · have hpf : decide (0 < s.held ro) = false := by simpa using hp
          have HST := hide (show stepS s ⟨6, rc, rt, ro⟩ = ⟨s.there, s.later, updN s.held ro (s.held ro + 1)⟩ from rfl)
          have HOK := hide (show okS s ⟨6, rc, rt, ro⟩ = false by simp [okS]; omega)
          have HX3 := hide (Ext.setCell HX2.out (p := ⟨g, ro, none⟩) (by dsimp only; omega) (.int .i64 (s.held ro + 1)))
          go_wp2_with fail
          go_ret2
          exact ⟨.inr (HNO.out HOK.out), HX3.out⟩
      by_cases h7 : rk = 7
      · subst h7
        by_cases hp : 0 < s.held ro
        · have hpf : decide (0 < s.held ro) = true := by simpa using hp
          have HST := hide (show stepS s ⟨7, rc, rt, ro⟩ = ⟨s.there, s.later, updN s.held ro (s.held ro - 1)⟩ from rfl)
          have HOK := hide (show okS s ⟨7, rc, rt, ro⟩ = true by simp [okS, hp])
          have HH3 := hide (IA.set HH2.out ro hro (s.held ro - 1))
          have HL3 := hide (Arr.far HL2.out (p := ⟨g, ro, none⟩) (by dsimp only; omega) (.int .i64 (s.held ro - 1)))
          have HT3 := hide (Arr.far HT2.out (p := ⟨g, ro, none⟩) (by dsimp only; omega) (.int .i64 (s.held ro - 1)))
          have HX3 := hide (Ext.setCell HX2.out (p := ⟨g, ro, none⟩) (by dsimp only; omega) (.int .i64 (s.held ro - 1)))
          go_wp2_with fail
          go_roundw
          case rel => exact ⟨k + 1, by omega, by go_num, HYES.out HOK.out, by rw [HS.out, HST.out]; exact HH3.out, by rw [HS.out, HST.out]; exact HL3.out, by rw [HS.out, HST.out]; exact HT3.out, HX3.out⟩
          case measure => simp [intOf]; omega
        · have hpf : decide (0 < s.held ro) = false := by simpa using hp
          have HST := hide (show stepS s ⟨7, rc, rt, ro⟩ = ⟨s.there, s.later, updN s.held ro (s.held ro - 1)⟩ from rfl)
          have HOK := hide (show okS s ⟨7, rc, rt, ro⟩ = false by simp [okS]; omega)
          have HX3 := hide (Ext.setCell HX2.out (p := ⟨g, ro, none⟩) (by dsimp only; omega) (.int .i64 (s.held ro - 1)))
          go_wp2_with fail
          go_ret2
          exact ⟨.inr (HNO.out HOK.out), HX3.out⟩
      by_cases h8 : rk = 8
      · subst h8
        by_cases hb8 : s.there ro = true
        · rw [hb8] at c3
          by_cases hz : s.held ro = 0
          · have hz1 : (s.held ro == 0) = true := by simpa using hz
            by_cases hl8 : s.later ro = true
            · rw [hl8] at c2
              have HST := hide (show stepS s ⟨8, rc, rt, ro⟩ = ⟨s.there, updN s.later ro true, s.held⟩ from rfl)
              have HOK := hide (show okS s ⟨8, rc, rt, ro⟩ = false by simp [okS, hl8])
              clear hb8 hl8 hz
              have HX3 := hide (Ext.setCell HX2.out (p := ⟨g + 1, ro, none⟩) (by dsimp only; omega) (.bool true))
              go_wp2_with fail
              go_ret2
              exact ⟨.inr (HNO.out HOK.out), HX3.out⟩
            · have hl8f : s.later ro = false := by simpa using hl8
              have HST := hide (show stepS s ⟨8, rc, rt, ro⟩ = ⟨s.there, updN s.later ro true, s.held⟩ from rfl)
              have HOK := hide (show okS s ⟨8, rc, rt, ro⟩ = true by simp [okS, hl8f, hb8, hz])
              rw [hl8f] at c2
              clear hb8 hl8 hl8f hz
              have HH3 := hide (Arr.far HH2.out (p := ⟨g + 1, ro, none⟩) (by dsimp only; omega) (.bool true))
              have HL3 := hide (BA.set HL2.out ro hro true)
              have HT3 := hide (Arr.far HT2.out (p := ⟨g + 1, ro, none⟩) (by dsimp only; omega) (.bool true))
              have HX3 := hide (Ext.setCell HX2.out (p := ⟨g + 1, ro, none⟩) (by dsimp only; omega) (.bool true))
              go_wp2_with fail
              go_roundw
              case rel => exact ⟨k + 1, by omega, by go_num, HYES.out HOK.out, by rw [HS.out, HST.out]; exact HH3.out, by rw [HS.out, HST.out]; exact HL3.out, by rw [HS.out, HST.out]; exact HT3.out, HX3.out⟩
              case measure => simp [intOf]; omega
          · have hz1 : (s.held ro == 0) = false := by simpa using hz
            have HST := hide (show stepS s ⟨8, rc, rt, ro⟩ = ⟨s.there, updN s.later ro true, s.held⟩ from rfl)
            have HOK := hide (show okS s ⟨8, rc, rt, ro⟩ = false by simp [okS, hz])
            clear hb8 hz
            have HX3 := hide (Ext.setCell HX2.out (p := ⟨g + 1, ro, none⟩) (by dsimp only; omega) (.bool true))
            go_wp2_with fail
            go_ret2
            exact ⟨.inr (HNO.out HOK.out), HX3.out⟩
        · have hb8f : s.there ro = false := by simpa using hb8
          have HST := hide (show stepS s ⟨8, rc, rt, ro⟩ = ⟨s.there, updN s.later ro true, s.held⟩ from rfl)
          have HOK := hide (show okS s ⟨8, rc, rt, ro⟩ = false by simp [okS, hb8f])
          rw [hb8f] at c3
          clear hb8 hb8f
          have HX3 := hide (Ext.setCell HX2.out (p := ⟨g + 1, ro, none⟩) (by dsimp only; omega) (.bool true))
          go_wp2_with fail
          go_ret2
          exact ⟨.inr (HNO.out HOK.out), HX3.out⟩
      by_cases h9 : rk = 9
      · subst h9
        by_cases hb9 : s.later ro = true
        · have hb9f : s.later ro = true := by simpa using hb9
          have HST := hide (show stepS s ⟨9, rc, rt, ro⟩ = ⟨updN s.there ro false, updN s.later ro false, s.held⟩ from rfl)
          have HOK := hide (show okS s ⟨9, rc, rt, ro⟩ = true by simp [okS, hb9f])
          rw [hb9f] at c2
          clear hb9 hb9f
          have HH3 := hide (Arr.drew (Arr.far (Arr.far HH2.out (p := ⟨g + 1, ro, none⟩) (by dsimp only; omega) (.bool false)) (p := ⟨g + 2, ro, none⟩) (by dsimp only; omega) (.bool false)))
          have HL3 := hide (Arr.drew (Arr.far (BA.set HL2.out ro hro false) (p := ⟨g + 2, ro, none⟩) (by dsimp only; omega) (.bool false)))
          have HT3 := hide (Arr.drew (BA.set (Arr.far HT2.out (p := ⟨g + 1, ro, none⟩) (by dsimp only; omega) (.bool false)) ro hro false))
          have HX3 := hide (Ext.drew (Ext.setCell (Ext.setCell HX2.out (p := ⟨g + 1, ro, none⟩) (by dsimp only; omega) (.bool false)) (p := ⟨g + 2, ro, none⟩) (by dsimp only; omega) (.bool false)))
          go_upto_region 25 with fail
          go_region_held3 (fun w' => w'.cell? ⟨gx, 3, none⟩ = some (.int .i64 ro)) (((repeat (first | assumption | refine cellD ?_ | refine far1 ?_ (by dsimp only; omega) _)); done)) (fail)
          go_wp2_with fail
          go_roundw
          case rel => exact ⟨k + 1, by omega, by go_num, HYES.out HOK.out, by rw [HS.out, HST.out]; exact HH3.out, by rw [HS.out, HST.out]; exact HL3.out, by rw [HS.out, HST.out]; exact HT3.out, HX3.out⟩
          case measure => simp [intOf]; omega
        · have hb9f : s.later ro = false := by simpa using hb9
          have HST := hide (show stepS s ⟨9, rc, rt, ro⟩ = ⟨updN s.there ro false, updN s.later ro false, s.held⟩ from rfl)
          have HOK := hide (show okS s ⟨9, rc, rt, ro⟩ = false by simp [okS, hb9f])
          rw [hb9f] at c2
          clear hb9 hb9f
          have HX3 := hide (Ext.drew (Ext.setCell (Ext.setCell HX2.out (p := ⟨g + 1, ro, none⟩) (by dsimp only; omega) (.bool false)) (p := ⟨g + 2, ro, none⟩) (by dsimp only; omega) (.bool false)))
          go_upto_region 25 with fail
          go_region_held3 (fun w' => w'.cell? ⟨gx, 3, none⟩ = some (.int .i64 ro)) (((repeat (first | assumption | refine cellD ?_ | refine far1 ?_ (by dsimp only; omega) _)); done)) (fail)
          go_wp2_with fail
          go_ret2
          exact ⟨.inr (HNO.out HOK.out), HX3.out⟩
      · have HST := hide (show stepS s ⟨rk, rc, rt, ro⟩ = s by simp only [stepS, h5, h6, h7, h8, h9, if_false])
        have HOK := hide (show okS s ⟨rk, rc, rt, ro⟩ = true by simp only [okS, h5, h6, h7, h8, h9, if_false])
        have t5 : (rk == 5) = false := by simpa using h5
        have t6 : (rk == 6) = false := by simpa using h6
        have t7 : (rk == 7) = false := by simpa using h7
        have t8 : (rk == 8) = false := by simpa using h8
        have t9 : (rk == 9) = false := by simpa using h9
        go_wp2_with fail
        go_roundw
        case rel => exact ⟨k + 1, by omega, by go_num, HYES.out HOK.out, by rw [HS.out, HST.out]; exact HH2.out, by rw [HS.out, HST.out]; exact HL2.out, by rw [HS.out, HST.out]; exact HT2.out, HX2.out⟩
        case measure => simp [intOf]; omega
    · obtain rfl : n = k := by omega
      go_wp2_with fail
      go_ret2
      exact ⟨.inl ⟨rfl, by rw [HN.out]; exact HCL.out⟩, HX.out⟩
end Go.Proofs.Ytlmcahgffakoiaa
