/- The contract of slices.Repeat on one text. -/
import Derived.Test.YtikbfmjhmjkkgaaDoorAmWord
import Derived.Test.YtikbfmjhmjkkgaaDoorShelf2
import Derived.Test.YtikbfmjhmjkkgaaDoorCopyN
import Derived.Laws.OwnMore
namespace Go.Proofs.YtikbfmjhmjkkgaaDoor
open Go.RowKit
set_option linter.unusedVariables false

def zsV : Value := .string ⟨#[]⟩
def repV (x : Bs) (k m : Nat) : List Value := List.replicate k (.string (str x)) ++ List.replicate m zsV
theorem repV_len (x : Bs) (k m : Nat) : (repV x k m).length = k + m := by simp [repV]
theorem repV_spl (x : Bs) (k m j : Nat) (h : j ≤ m) : spl (repV x k m) k (List.replicate j (.string (str x))) = repV x (k + j) (m - j) := by
  unfold spl repV
  rw [List.take_left' (by simp), List.length_replicate]
  have e : (List.replicate k (Value.string (str x)) ++ List.replicate m zsV).drop (k + j) = List.replicate (m - j) zsV := by
    rw [← List.drop_drop, List.drop_left' (by simp), List.drop_replicate]
  rw [e, ← List.append_assoc, List.replicate_append_replicate]
theorem repV_one (x : Bs) (j : Nat) : ∀ v ∈ List.replicate j (Value.string (str x)), v.oneCell' = true := fun v hv => by rw [List.eq_of_mem_replicate hv]; rfl
/-- One copy into the row. -/
theorem rep_copy (x : Bs) (k m j g : Nat) (W : World) (h : Blk W g 9 (repV x k m).toArray) (ty : TypeId) (d1 d2 s1 s2 : Nat) (ad : Addr) (hd : d1 = m) (hj : Nat.min s1 d1 = j) (hjm : j ≤ m) (hs : ∀ q, q < j → W.cell? (ad.add q) = some (.string (str x))) :
    (Builtin.copy_ #[23, 23] ty #[.slice (some ⟨g, k, none⟩) d1 d2, .slice (some ad) s1 s2]).run Tryd.prog W = .ok (goInt j) (W.setRow g (repV x (k + j) (m - j)).toArray) := by
  have hsz : (Tryd.prog.info? 9).map (·.size) = some 1 := by kernel_rfl
  have := run_copy_rowN (P := Tryd.prog) W 23 23 ty 9 1 g k d1 d2 ad s1 s2 (repV x k m).toArray 9 (List.replicate j (.string (str x))) Tryd.underlying23 hsz h (by rw [hj]; simp)
    (fun q v hq => by
      have hlt : q < j := by have := (List.getElem?_eq_some_iff.1 hq).1; simpa using this
      rw [List.getElem?_replicate, if_pos hlt] at hq
      rw [hs q hlt, hq]) (by simp [repV_len]; omega) (repV_one x j)
  rw [hj, List.toList_toArray, repV_spl x k m j hjm] at this
  exact this
theorem setRow_blk {W : World} {g : Nat} {t : TypeId} {cs : Array Value} (h : Blk W g t cs) (ds : Array Value) : Blk (W.setRow g ds) g t ds := by
  unfold Blk at h ⊢
  simp [World.setRow, Array.getElem?_modify, h]
def ReRel (w : World) (x : Bs) (n g : Nat) (v8 : Value) (wr : World) : Prop := ∃ k : Nat, k ≤ n ∧ (n = 0 ∨ 1 ≤ k) ∧ v8 = .int .i64 (k : Int) ∧ Blk wr g 9 (repV x k (n - k)).toArray ∧ Ext w wr
set_option maxHeartbeats 8000000 in
set_option maxRecDepth 100000 in
theorem repeat_any (x : Bs) (b off c n : Nat) (w : World) (hx : w.cell? ⟨b, off, none⟩ = some (.string (str x))) (hn : n ≤ 30) :
    Calls Tryd.prog 14 #[.slice (some ⟨b, off, none⟩) 1 c, .int .i64 (n : Int)] w fun e w' => ∃ g, e = .returned (.slice (some ⟨g, 0, none⟩) n n) ∧ w.heap.size ≤ g ∧ Blk w' g 9 (repV x n 0).toArray ∧ Ext w w' := by
  obtain ⟨i0, hi0, hz0, hz1, hz2⟩ := info_parts string_info
  have t1 : decide ((n : Int) < 0) = false := decide_eq_false (by omega)
  have t2 : decide ((9223372036854775807 : Int) < (n : Int)) = false := decide_eq_false (by omega)
  have t2' : decide (9223372036854775807 < n) = false := decide_eq_false (by omega)
  have HMU := hide (Tryd.bits_Mul 1 n (by omega) (by omega) w)
  rw [show 1 * n / 18446744073709551616 = 0 by omega, show 1 * n % 18446744073709551616 = n by omega] at HMU
  obtain ⟨W0, hmk, hown, hgr⟩ := run_makeSlice_full (P := Tryd.prog) (w := w) w.heap.size 23 9 i0 _ 1 Tryd.underlying23 hi0 hz0 hz1 .i64 .i64 n (by omega) (by rw [hz2]; omega) (by simp only [maxLen]; omega) (Nat.le_refl _)
  obtain ⟨gN, hgN⟩ : ∃ x, w.heap.size = x := ⟨_, rfl⟩
  have HGN := hide (show w.heap.size ≤ gN by omega)
  rw [hgN] at hmk hown
  have hbl : Blk W0 gN 9 (repV x 0 n).toArray := by
    rcases hown.2 with ⟨h, _⟩ | ⟨g', cap, cur, hv, hb, hh, hnc, hm, hs, hxx⟩
    · cases h
    · injection hv with hA _ hcc
      injection hA with hA
      injection hA with hA _ _
      subst hA hcc
      have e1 : (madeCells (Value.string ⟨#[]⟩).cells (n * 1)).toList = List.replicate n zsV := by
        have := Lib.cellsOf_nil n
        have h2 : madeCells #[.string ByteArray.empty] n = (List.replicate n zsV).toArray := by rw [← this]; simp [Lib.cellsOf]; exact .inr rfl
        rw [Nat.mul_one]
        show (madeCells #[.string ByteArray.empty] n).toList = _
        rw [h2]
      rw [List.take_of_length_le (by rw [Array.length_toList, hs]; exact Nat.le_refl _)] at hxx
      rw [e1] at hxx
      have e2 : cur = (repV x 0 n).toArray := by
        rw [← Array.toList_inj, hxx]
        simp [repV]
      rw [← e2]
      exact hh
  have HX0 := hide (show Ext w W0 from Ext.of ⟨hgr.os, hgr.tape, hgr.output, hgr.size, fun k hk => hgr.block k (by rw [hgN] at *; exact hk) (by simp)⟩)
  have HBL := hide hbl
  obtain ⟨j0, hj0⟩ : ∃ j, Nat.min 1 n = j := ⟨_, rfl⟩
  have hj1 : j0 ≤ n ∧ (n = 0 ∨ j0 = 1) := by have : min 1 n = j0 := hj0; omega
  have hcp0 := fun ty => rep_copy x 0 n j0 gN W0 HBL.out ty n n 1 c ⟨b, off, none⟩ rfl hj0 hj1.1 (fun q hq => by
    have : min 1 n = j0 := hj0
    obtain rfl : q = 0 := by omega
    rw [add_lit]
    exact HX0.out.cell hx)
  rw [Nat.zero_add] at hcp0
  have HC0 := hide hcp0
  have HJ := hide hj1
  have HB1 := hide (setRow_blk HBL.out (repV x j0 (n - j0)).toArray)
  have HX1 := hide (show Ext w (W0.setRow gN (repV x j0 (n - j0)).toArray) from
    (HX0.out.grown (setRow_grown (World.grownBy.refl W0 (some gN)) _) (fun k hk => by injection hk with hk; rw [← hk]; exact HGN.out)))
  clear hown hgr hbl hj0 hj1 hcp0 hx hgN
  go_enter Tryd.func14, Tryd.ntmps14
  go_wp2_with fail
  refine HMU.out.mono ?_
  rintro e w1 ⟨rfl, hw1⟩
  subst hw1
  have hc9 := HC0.out 3
  have hgi : goInt j0 = .int .i64 (j0 : Int) := rfl
  rw [hgi] at hc9
  go_wp2_with fail
  clear hc9
  go_loopw [8] (ReRel w1 x n gN) (fun v _ => n - (intOf v).toNat)
  case atStart => exact ⟨j0, HJ.out.1, by have := HJ.out.2; omega, rfl, HB1.out, HX1.out⟩
  case round =>
    obtain ⟨k, hk, hk1, rfl, hb, hx⟩ := hrel
    have HB := hide hb
    have HX := hide hx
    clear hb hx
    by_cases hlt : k < n
    · obtain ⟨j, hj⟩ : ∃ j, Nat.min k (n - k) = j := ⟨_, rfl⟩
      have hj1 : j ≤ n - k ∧ 1 ≤ j ∧ j ≤ k := by have : min k (n - k) = j := hj; omega
      have hcp : ∀ W, Blk W gN 9 (repV x k (n - k)).toArray → ∀ ty d1 d2 s1 s2, d1 = n - k → s1 = k → (Builtin.copy_ #[23, 23] ty #[.slice (some ⟨gN, k, none⟩) d1 d2, .slice (some ⟨gN, 0, none⟩) s1 s2]).run Tryd.prog W = .ok (goInt j) (W.setRow gN (repV x (k + j) (n - k - j)).toArray) := fun W hW ty d1 d2 s1 s2 h1 h2 => by
        subst h1 h2
        refine rep_copy x s1 (n - s1) j gN W hW ty (n - s1) d2 s1 s2 ⟨gN, 0, none⟩ rfl hj hj1.1 (fun q hq => ?_)
        rw [add_lit, Nat.zero_add, hW.cell]
        have h3 : q < s1 := by omega
        rw [List.getElem?_toArray]
        unfold repV
        rw [List.getElem?_append_left (by simpa using h3), List.getElem?_replicate, if_pos h3]
      have HCP := hide hcp
      have HJ1 := hide hj1
      clear hcp hj hj1
      have hgj : goInt j = .int .i64 (j : Int) := rfl
      have hnk : ¬ (n = k) := by omega
      have hc9 := HCP.out wr.drew HB.out 3 (n - k) (n - k) k n rfl rfl
      rw [hgj] at hc9
      have hw9 : IntKind.i64.wrap ((k : Int) + (j : Int)) = ((k + j : Nat) : Int) := by have := HJ1.out; rw [IntKind.wrap_i64]; omega
      obtain ⟨m, hm⟩ : ∃ m, n - k = m := ⟨_, rfl⟩
      have HMM := hide hm
      have HB9 := hide (setRow_blk (W := wr.drew) HB.out (repV x (k + j) (n - k - j)).toArray)
      have HX9 := hide (show Ext w1 (wr.drew.setRow gN (repV x (k + j) (n - k - j)).toArray) from
        (HX.out.drew.grown (setRow_grown (World.grownBy.refl wr.drew (some gN)) _) (fun k hk => by injection hk with hk; rw [← hk]; exact HGN.out)))
      clear hm
      go_upto_region 9 with fail
      clear hgj
      go_region_law (refine step_copy_eqN rfl _ _ 23 23 rfl _ _ (by simp [Act.eval, Act.put]) (by simp [Act.eval, Act.put]) hc9 ?_)
      all_goals
        simp only [Act.put, List.getElem_toArray, List.getElem_cons_zero, List.getElem_cons_succ, Array.setIfInBounds, List.size_toArray, List.length_cons, List.length_nil, Nat.reduceAdd, Nat.reduceLT, dite_true, List.set_toArray, List.set_cons_zero, List.set_cons_succ]
        go_wp2_with fail
        go_roundw
        case rel => exact ⟨k + j, by have := HJ1.out; omega, by have := HJ1.out; omega, by first | rfl | go_num, by rw [show n - (k + j) = n - k - j by omega]; exact HB9.out, HX9.out⟩
        case measure => simp [intOf]; have := HJ1.out; omega
    · obtain rfl : k = n := by omega
      rw [Nat.sub_self] at HB
      go_wp2_with fail
      go_ret
      exact ⟨gN, rfl, HGN.out, HB.out, HX.out⟩
end Go.Proofs.YtikbfmjhmjkkgaaDoor
