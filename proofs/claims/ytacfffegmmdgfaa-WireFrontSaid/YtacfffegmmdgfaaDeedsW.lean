/- The contract of ringkeep4.deeds. -/
import Derived.Test.YtacfffegmmdgfaaRunP
import Derived.Test.YtacfffegmmdgfaaRest
namespace Go.Proofs.Ytacfffegmmdgfaa
open Go.RowKit
set_option linter.unusedVariables false

def rawD (x : DeedD) : DeedD := ⟨1 + restZ x.kind 7, restZ x.end_ 2, restZ x.n 20, x.data.take 50⟩
def deedsD (l : List DeedD) : List DeedD := (l.take 120).map rawD
def I64 (z : Int) : Prop := -9223372036854775808 ≤ z ∧ z ≤ 9223372036854775807
/-- Raw deeds that came in. -/
structure RawIn (w : World) (A : Option Addr) (n : Nat) (ls : List (DeedD × Value)) : Prop where
  row : Reads w w.heap.size 4 A n (ls.flatMap deedC)
  each : ∀ x ∈ ls, I64 x.1.kind ∧ I64 x.1.end_ ∧ I64 x.1.n ∧ ∃ A' k c, x.2 = .slice A' k c ∧ k ≤ c ∧ c ≤ maxLen ∧ Reads w w.heap.size 1 A' k (bytesV x.1.data)
  len : n ≤ maxLen
theorem deed_info : (Try.prog.info? 35).map (fun i => (i.zero, i.size, i.bytes)) = some (some (.agg #[.int .i64 0, .int .i64 0, .int .i64 0, .slice none 0 0]), 4, 48) := by kernel_rfl
def DataAt (w : World) (x : DeedD × Value) : Prop := ∃ A' k c, x.2 = .slice A' k c ∧ k ≤ c ∧ c ≤ maxLen ∧ Reads w w.heap.size 1 A' k (bytesV x.1.data)
/-- What deeds has made so far. -/
def Made4 (w : World) (l : List DeedD) (A : Option Addr) (n c : Nat) (w' : World) : Prop :=
  ∃ ls' : List (DeedD × Value), ls'.map (·.1) = l ∧ w'.ownsRow w.heap.size 35 4 (.slice A n c) n (ls'.flatMap deedC) ∧ (∀ x ∈ ls', DataAt w x) ∧ Ext w w'
def DeedsRel (w : World) (ls : List (DeedD × Value)) (n : Nat) (v3 v8 : Value) (wr : World) : Prop :=
  ∃ k : Nat, k ≤ n ∧ v8 = .int .i64 k ∧ ∃ A m c, v3 = .slice A m c ∧ m ≤ 120 ∧ m ≤ k ∧ (k < 120 → m = k) ∧ Made4 w (deedsD ((ls.map (·.1)).take k)) A m c wr
theorem Blk.reads4d {w : World} {g : Nat} {t : TypeId} {a b c d : Value} (h : Blk w g t #[a, b, c, d]) : Reads w w.heap.size 4 (some ⟨g, 0, none⟩) 1 [a, b, c, d] := by
  refine ⟨by simp, fun _ => ⟨_, rfl, h.lt, fun j u hu => ?_⟩⟩
  rw [add_lit, Nat.zero_add, h.cell]
  simpa using hu
theorem deeds_snoc (l : List DeedD) (k : Nat) (hk : k < l.length) : deedsD (l.take (k + 1)) = if k < 120 then deedsD (l.take k) ++ [rawD l[k]] else deedsD (l.take k) := by
  unfold deedsD
  split
  · rename_i h
    rw [List.take_take, List.take_take, Nat.min_eq_right (by omega), Nat.min_eq_right (by omega), List.take_succ_eq_append_getElem hk, List.map_append]
    rfl
  · rename_i h
    rw [List.take_take, List.take_take, Nat.min_eq_left (by omega), Nat.min_eq_left (by omega)]
set_option maxHeartbeats 8000000 in
set_option maxRecDepth 100000 in
theorem deeds_any (w : World) (A : Option Addr) (n c : Nat) (ls : List (DeedD × Value)) (h : RawIn w A n ls) :
    Calls Try.prog 7 #[.slice A n c] w fun r w' => ∃ A' m c', r = .returned (.slice A' m c') ∧ m ≤ 120 ∧ Made4 w (deedsD (ls.map (·.1))) A' m c' w' := by
  obtain ⟨i0, hi0, hz0, hz1, hz2⟩ := info_parts deed_info
  have HD := hide h
  have hnm := h.len
  unfold maxLen at hnm
  have HLL := hide (flat_len deedC_len (by omega) h.row)
  clear h
  go_enter Try.func7, Try.ntmps7
  go_wp2_with fail
  go_loopw [3, 8] (DeedsRel w ls n) (fun _ v _ => n - (intOf v).toNat)
  case atStart => exact ⟨0, Nat.zero_le _, rfl, none, 0, 0, rfl, by omega, by omega, fun _ => rfl, [], rfl, World.ownsRow_nil _ _ _ _, (fun x hx => by cases hx), Ext.refl w⟩
  case round =>
    obtain ⟨k, hk, rfl, Ao, m, co, rfl, hm, hmk, hmk2, hmade⟩ := hrel
    have HMD := hide hmade
    have HMK2 := hide hmk2
    clear hmade hmk2
    by_cases hlt : k < n
    · have hkl : k < ls.length := by rw [HLL.out]; exact hlt
      obtain ⟨bl, off, rfl, hbl⟩ := HD.out.row.addr (by omega) (by omega)
      obtain ⟨ls', hls', hown, hda, hext⟩ := HMD.out
      have hrd := hext.reads HD.out.row (Nat.le_refl _)
      have r0 := Reads.elem deedC_len hrd k hkl (by omega) 0 (by omega) (u := .int .i64 ls[k].1.kind) rfl
      have r1 := Reads.elem deedC_len hrd k hkl (by omega) 1 (by omega) (u := .int .i64 ls[k].1.end_) rfl
      have r2 := Reads.elem deedC_len hrd k hkl (by omega) 2 (by omega) (u := .int .i64 ls[k].1.n) rfl
      have r3 := Reads.elem deedC_len hrd k hkl (by omega) 3 (by omega) (u := ls[k].2) rfl
      obtain ⟨hb1, hb2, hb3, D, md, cD, hdv, hmc, hcm, hrD⟩ := HD.out.each _ (List.getElem_mem hkl)
      have hsn := deeds_snoc (ls.map (·.1)) k (by simpa using hkl)
      rw [List.getElem_map] at hsn
      obtain ⟨x, hx⟩ : ∃ x, ls[k] = x := ⟨_, rfl⟩
      rw [hx] at r0 r1 r2 r3 hb1 hb2 hb3 hdv hrD hsn
      obtain ⟨⟨kind, ed, nn, data⟩, dv⟩ := x
      dsimp only at r0 r1 r2 r3 hb1 hb2 hb3 hdv hrD hsn
      subst hdv
      have z0 : wr.cell? ⟨bl, off + k * 4, none⟩ = some (.int .i64 kind) := by simpa using r0
      have HSN := hide hsn
      have HLS := hide hls'
      have HOWN := hide hown
      have HDA := hide hda
      have HX := hide hext
      have HRD := hide hrD
      have HCM := hide hcm
      clear r0 hx hrd hls' hown hda hext hrD hsn hcm hkl
      by_cases h120 : k < 120
      · have hI : (k : Int) < 120 := by omega
        go_upto_region 6 with fail
        have HXA := hide ((Ext.refl wr).alloc (.cells #[.int .i64 kind, .int .i64 ed, .int .i64 nn, .slice D md cD] 35))
        have HBT := hide (Blk.new wr 35 #[.int .i64 kind, .int .i64 ed, .int .i64 nn, .slice D md cD])
        generalize wr.alloc (.cells #[.int .i64 kind, .int .i64 ed, .int .i64 nn, .slice D md cD] 35) = W at *
        obtain ⟨gt, hgt⟩ : ∃ x, wr.heap.size = x := ⟨_, rfl⟩
        rw [hgt] at HBT ⊢
        have HGT := hide hgt
        clear hgt r1 r2 r3 z0
        have b0 : W.cell? ⟨gt, 0, none⟩ = some (.int .i64 kind) := HBT.out.cell 0
        have b1 : W.cell? ⟨gt, 1, none⟩ = some (.int .i64 ed) := HBT.out.cell 1
        have b2 : W.cell? ⟨gt, 2, none⟩ = some (.int .i64 nn) := HBT.out.cell 2
        have b3 : W.cell? ⟨gt, 3, none⟩ = some (.slice D md cD) := HBT.out.cell 3
        have e1 := restZ_lo kind 7 (by omega)
        have e2 := restZ_hi kind 7 (by omega)
        have HR1 := hide (fun W' : World => rest_any kind 7 W' hb1.1 hb1.2 (by omega) (by omega))
        have HR2 := hide (fun W' : World => rest_any ed 2 W' hb2.1 hb2.2 (by omega) (by omega))
        have HR3 := hide (fun W' : World => rest_any nn 20 W' hb3.1 hb3.2 (by omega) (by omega))
        have HC := hide (fun W' : World => cut_any D md cD 50 W' hmc HCM.out (by omega))
        obtain ⟨z1, hz1'⟩ : ∃ x, restZ kind 7 = x := ⟨_, rfl⟩
        obtain ⟨z2, hz2'⟩ : ∃ x, restZ ed 2 = x := ⟨_, rfl⟩
        obtain ⟨z3, hz3'⟩ : ∃ x, restZ nn 20 = x := ⟨_, rfl⟩
        obtain ⟨q, hq⟩ : ∃ x, min md 50 = x := ⟨_, rfl⟩
        rw [hz1'] at e1 e2 HR1
        rw [hz2'] at HR2
        rw [hz3'] at HR3
        rw [hq] at HC
        have HZ := hide (⟨hz1', hz2', hz3', hq⟩ : restZ kind 7 = z1 ∧ restZ ed 2 = z2 ∧ restZ nn 20 = z3 ∧ min md 50 = q)
        have hw1 : IntKind.i64.wrap (1 + z1) = 1 + z1 := by rw [IntKind.wrap_i64]; omega
        clear hz1' hz2' hz3' hq hb1 hb2 hb3
        have hs0 : w.heap.size ≤ W.heap.size := Nat.le_trans HX.out.size HXA.out.size
        go_region_held3 (fun w' => w'.cell? ⟨gt, 0, none⟩ = some (.int .i64 kind) ∧ w'.cell? ⟨gt, 1, none⟩ = some (.int .i64 ed) ∧ w'.cell? ⟨gt, 2, none⟩ = some (.int .i64 nn) ∧ w'.cell? ⟨gt, 3, none⟩ = some (.slice D md cD)) (first | exact k7 | exact ⟨b0, b1, b2, b3⟩ | exact ⟨Ext.cell (w := W) (by ((repeat (first | with_reducible exact Ext.refl _ | with_reducible assumption | with_reducible refine Ext.alloc ?_ _ | with_reducible refine Ext.drew ?_ | with_reducible refine Ext.drewN ?_ _ | with_reducible refine Ext.setCell ?_ (by first | exact Nat.le_refl _ | assumption | (simp; done) | omega) _ | with_reducible refine Ext.trans ?_ (by with_reducible assumption))); done)) b0, Ext.cell (w := W) (by ((repeat (first | with_reducible exact Ext.refl _ | with_reducible assumption | with_reducible refine Ext.alloc ?_ _ | with_reducible refine Ext.drew ?_ | with_reducible refine Ext.drewN ?_ _ | with_reducible refine Ext.setCell ?_ (by first | exact Nat.le_refl _ | assumption | (simp; done) | omega) _ | with_reducible refine Ext.trans ?_ (by with_reducible assumption))); done)) b1, Ext.cell (w := W) (by ((repeat (first | with_reducible exact Ext.refl _ | with_reducible assumption | with_reducible refine Ext.alloc ?_ _ | with_reducible refine Ext.drew ?_ | with_reducible refine Ext.drewN ?_ _ | with_reducible refine Ext.setCell ?_ (by first | exact Nat.le_refl _ | assumption | (simp; done) | omega) _ | with_reducible refine Ext.trans ?_ (by with_reducible assumption))); done)) b2, Ext.cell (w := W) (by ((repeat (first | with_reducible exact Ext.refl _ | with_reducible assumption | with_reducible refine Ext.alloc ?_ _ | with_reducible refine Ext.drew ?_ | with_reducible refine Ext.drewN ?_ _ | with_reducible refine Ext.setCell ?_ (by first | exact Nat.le_refl _ | assumption | (simp; done) | omega) _ | with_reducible refine Ext.trans ?_ (by with_reducible assumption))); done)) b3⟩ | assumption | fail)
          (first | (go_at_call 10; first | ((with_reducible refine (HR1.out _).mono ?_); rintro r w6 ⟨rfl, rfl⟩) | ((with_reducible refine (HR2.out _).mono ?_); rintro r w6 ⟨rfl, rfl⟩) | ((with_reducible refine (HR3.out _).mono ?_); rintro r w6 ⟨rfl, rfl⟩)) | (go_at_call 20; refine (HC.out _).mono ?_; rintro r w6 ⟨rfl, rfl⟩) | (refine step_append_any _ (by rfl) (.tmp 15) (.tmp 30) 23 (by rfl) w.heap.size 35 i0 _ 4 48 Try.underlying23 hi0 hz0 hz1 hz2 rfl (by omega) (.slice Ao m co) m (ls'.flatMap deedC) (by rfl) (Ext.own (w := W) (by ((repeat (first | with_reducible exact Ext.refl _ | with_reducible assumption | with_reducible refine Ext.alloc ?_ _ | with_reducible refine Ext.drew ?_ | with_reducible refine Ext.drewN ?_ _ | with_reducible refine Ext.setCell ?_ (by first | exact Nat.le_refl _ | assumption | (simp; done) | omega) _ | with_reducible refine Ext.trans ?_ (by with_reducible assumption))); done)) (HXA.out.own HOWN.out)) _ _ 1 1 (deedC (⟨1 + z1, z2, z3, data.take 50⟩, .slice D q cD)) (by rfl) (Blk.new W.drew 35 #[.int .i64 (1 + z1), .int .i64 z2, .int .i64 z3, .slice D q cD]).reads4d (by simp [deedC, Value.oneCell']) (by simp only [maxLen]; omega) (by omega) (Nat.le_trans hs0 (Ext.size (w := W) (by ((repeat (first | with_reducible exact Ext.refl _ | with_reducible assumption | with_reducible refine Ext.alloc ?_ _ | with_reducible refine Ext.drew ?_ | with_reducible refine Ext.drewN ?_ _ | with_reducible refine Ext.setCell ?_ (by first | exact Nat.le_refl _ | assumption | (simp; done) | omega) _ | with_reducible refine Ext.trans ?_ (by with_reducible assumption))); done)))) ?_; intro A7 c7 w7 ho7 hg7 ha7; have k7 : w7.cell? ⟨gt, 0, none⟩ = some (.int .i64 kind) ∧ w7.cell? ⟨gt, 1, none⟩ = some (.int .i64 ed) ∧ w7.cell? ⟨gt, 2, none⟩ = some (.int .i64 nn) ∧ w7.cell? ⟨gt, 3, none⟩ = some (.slice D md cD) := (have hne : some gt ≠ Value.ownBlock (.slice Ao m co) := (fun e => by have h1 := (HOWN.out.lt gt e.symm).2; have h2 := HGT.out; omega); ⟨hg7.cell (Ext.cell (w := W) (by ((repeat (first | with_reducible exact Ext.refl _ | with_reducible assumption | with_reducible refine Ext.alloc ?_ _ | with_reducible refine Ext.drew ?_ | with_reducible refine Ext.drewN ?_ _ | with_reducible refine Ext.setCell ?_ (by first | exact Nat.le_refl _ | assumption | (simp; done) | omega) _ | with_reducible refine Ext.trans ?_ (by with_reducible assumption))); done)) b0) hne, hg7.cell (Ext.cell (w := W) (by ((repeat (first | with_reducible exact Ext.refl _ | with_reducible assumption | with_reducible refine Ext.alloc ?_ _ | with_reducible refine Ext.drew ?_ | with_reducible refine Ext.drewN ?_ _ | with_reducible refine Ext.setCell ?_ (by first | exact Nat.le_refl _ | assumption | (simp; done) | omega) _ | with_reducible refine Ext.trans ?_ (by with_reducible assumption))); done)) b1) hne, hg7.cell (Ext.cell (w := W) (by ((repeat (first | with_reducible exact Ext.refl _ | with_reducible assumption | with_reducible refine Ext.alloc ?_ _ | with_reducible refine Ext.drew ?_ | with_reducible refine Ext.drewN ?_ _ | with_reducible refine Ext.setCell ?_ (by first | exact Nat.le_refl _ | assumption | (simp; done) | omega) _ | with_reducible refine Ext.trans ?_ (by with_reducible assumption))); done)) b2) hne, hg7.cell (Ext.cell (w := W) (by ((repeat (first | with_reducible exact Ext.refl _ | with_reducible assumption | with_reducible refine Ext.alloc ?_ _ | with_reducible refine Ext.drew ?_ | with_reducible refine Ext.drewN ?_ _ | with_reducible refine Ext.setCell ?_ (by first | exact Nat.le_refl _ | assumption | (simp; done) | omega) _ | with_reducible refine Ext.trans ?_ (by with_reducible assumption))); done)) b3) hne⟩)) | fail)
        all_goals
          have HMADE := hide (show Made4 w (deedsD ((ls.map (·.1)).take (k + 1))) A7 (m + 1) c7 w7 from by
            obtain ⟨y1, y2, y3, y4⟩ := HZ.out
            refine ⟨ls' ++ [(⟨1 + z1, z2, z3, data.take 50⟩, .slice D q cD)], ?_, ?_, ?_, ?_⟩
            · rw [List.map_append, HLS.out, HSN.out, if_pos h120]
              unfold rawD
              rw [y1, y2, y3]
              rfl
            · rw [List.flatMap_append]
              simpa using ho7
            · intro x hx
              rcases List.mem_append.1 hx with h1 | h1
              · exact HDA.out x h1
              · obtain rfl := List.mem_singleton.1 h1
                refine ⟨D, q, cD, rfl, by omega, HCM.out, ?_⟩
                have h5 : (data.take q) = data.take 50 := by
                  have hl : data.length = md := by have := HRD.out.1; rw [bytesV_length] at this; omega
                  by_cases h6 : md ≤ 50
                  · rw [List.take_of_length_le (by omega), List.take_of_length_le (by omega)]
                  · rw [show q = 50 by omega]
                have := HRD.out.take (k := q) (by omega)
                rw [bytesV_take, h5] at this
                exact this
            · refine ((HX.out.trans HXA.out).trans (by ((repeat (first | with_reducible exact Ext.refl _ | with_reducible assumption | with_reducible refine Ext.alloc ?_ _ | with_reducible refine Ext.drew ?_ | with_reducible refine Ext.drewN ?_ _ | with_reducible refine Ext.setCell ?_ (by first | exact Nat.le_refl _ | assumption | (simp; done) | omega) _ | with_reducible refine Ext.trans ?_ (by with_reducible assumption))); done))).grown hg7 (fun g hg => ?_)
              rcases HOWN.out with ho
              exact (HOWN.out.lt g hg).1)
          clear ho7 hg7 ha7 k7
          go_wp2_with fail
          go_roundw
          case rel => exact ⟨k + 1, by omega, by go_num, A7, m + 1, c7, rfl, by have := HMK2.out h120; omega, by omega, fun _ => by have := HMK2.out h120; omega, HMADE.out⟩
          case measure => simp [intOf]; omega
      · have hI : ¬ ((k : Int) < 120) := by omega
        go_wp2_with fail
        go_roundw
        case rel => exact ⟨k + 1, by omega, by go_num, Ao, m, co, rfl, hm, by omega, fun h => absurd h (by omega), ls', by rw [HLS.out, HSN.out, if_neg h120], (Ext.refl wr |>.alloc _).own HOWN.out, HDA.out, HX.out.trans ((Ext.refl wr).alloc _)⟩
        case measure => simp [intOf]; omega
    · obtain rfl : k = n := by omega
      go_wp2_with fail
      go_ret
      refine ⟨Ao, m, co, rfl, hm, ?_⟩
      have h1 := HMD.out
      rw [List.take_of_length_le (by rw [List.length_map, HLL.out]; exact Nat.le_refl _)] at h1
      exact h1
end Go.Proofs.Ytacfffegmmdgfaa
