/- The run of processors, weakly: waiting, the least virtual time. -/
import Derived.Test.YthmojneobkaolaaGreatDoorTpRun3
namespace Go.Proofs.YthmojneobkaolaaGreatDoor
open Go.RowKit
set_option linter.unusedVariables false

theorem RunM.ne {b : Nat} {w : World} {hr g n cp : Nat} {tick stamp : Int} {xs : List Value} (h : RunM b w hr g n cp tick stamp xs) : hr ≠ g := fun e => by
  have := own_blk_ne h.row h.box (by decide)
  exact this (by rw [e]; rfl)
set_option maxHeartbeats 8000000 in
set_option maxRecDepth 100000 in
theorem rwait_any {b : Nat} {w : World} {hr g n cp : Nat} {tick stamp : Int} {xs : List Value} (h : RunM b w hr g n cp tick stamp xs) (i : Nat) (hi : i < n) :
    Calls Tryz.prog 50 #[.pointer (some ⟨hr, 0, none⟩), .pointer (some ⟨g, i * 15, none⟩)] w fun e w' => e = .returned (.tuple #[]) ∧ RunK b w hr g n cp w' := by
  obtain ⟨z14, k14, -, -⟩ := (h.task i hi).int 14 (by omega)
  obtain ⟨z10, k10, -, -⟩ := (h.task i hi).int 10 (by omega)
  have f14 := (h.task i hi).2 14
  have f10 := (h.task i hi).2 10
  have c2 : w.cell? ⟨hr, 2, none⟩ = some (.int .i64 stamp) := h.box.cell 2
  have q2 := h.frozen 2
  have hne := h.ne
  have hne' := h.ne.symm
  have s1 := h.set i 14 hi (by omega) (.int .i64 (-1)) ⟨_, rfl⟩
  have s2 := s1.1.head (wrap64 (stamp + 1))
  have s3 := s2.1.set i 10 hi (by omega) (.int .i64 (wrap64 (stamp + 1))) ⟨_, rfl⟩
  have HK := hide (show RunK b w hr g n cp _ from ⟨⟨_, _, _, s3.1⟩, (s1.2.trans (s2.2.2 2 _)).trans s3.2⟩)
  clear s1 s2 s3 h
  go_enter Tryz.func50, Tryz.ntmps50
  go_wp2_with fail
  (first | go_end0 | ((try simp only [Exit.inBlock, Exit.then]); refine bodyPost_ret (results_none rfl _ _ _) rfl ?_))
  exact ⟨rfl, HK.out⟩
def LwRel (n : Nat) (v4 v5 v13 : Value) (w0 wr : World) : Prop := ∃ (i : Nat) (z : Int) (k : Bool), v13 = .int .i64 (i : Int) ∧ v4 = .int .i64 z ∧ v5 = .bool k ∧ i ≤ n ∧ Ext w0 wr
theorem task_size : (Tryz.prog.info? 118).map (·.size) = some 15 := by kernel_rfl
theorem RunM.range {b : Nat} {w : World} {hr g n cp : Nat} {tick stamp : Int} {xs : List Value} (h : RunM b w hr g n cp tick stamp xs) (i : Nat) (hi : i < n) : ∃ cs : List Value, cs.length = 15 ∧ w.rangeAt g (i * 15) cs ∧ ∀ f, f < 15 → ∃ u, cs[f]? = some u ∧ kindT f u := by
  refine ⟨(xs.drop (i * 15)).take 15, ?_, fun j v hv => ?_, fun f hf => ?_⟩
  · rw [List.length_take, List.length_drop, h.kind.1]
    have : (i + 1) * 15 ≤ n * 15 := Nat.mul_le_mul_right _ hi
    omega
  · rw [List.getElem?_take] at hv
    split at hv
    · rw [List.getElem?_drop] at hv
      exact (own_cell h.row _ hv).1
    · cases hv
  · obtain ⟨u, hu, hk⟩ := h.kind.2 i f hi hf
    exact ⟨u, by rw [List.getElem?_take, if_pos hf, List.getElem?_drop]; exact hu, hk⟩
theorem kind_one {cs : List Value} (hl : cs.length = 15) (hk : ∀ f, f < 15 → ∃ u, cs[f]? = some u ∧ kindT f u) : cs.toArray.all (·.oneCell') = true := by
  refine all_oneCell_toArray fun v hv => ?_
  obtain ⟨f, hf, rfl⟩ := List.getElem_of_mem hv
  obtain ⟨u, hu, hk⟩ := hk f (by omega)
  rw [List.getElem?_eq_getElem hf] at hu
  injection hu with hu
  rw [hu]
  unfold kindT at hk
  split at hk
  · subst hk; rfl
  split at hk
  · subst hk; rfl
  split at hk
  · subst hk; rfl
  split at hk
  · obtain ⟨b, rfl⟩ := hk; rfl
  · obtain ⟨z, rfl⟩ := hk; rfl
set_option maxHeartbeats 8000000 in
set_option maxRecDepth 100000 in
theorem low_any {b : Nat} {w : World} {hr g n cp : Nat} {tick stamp : Int} {xs : List Value} (h : RunM b w hr g n cp tick stamp xs) (hn : n ≤ 100) :
    Calls Tryz.prog 117 #[.pointer (some ⟨hr, 0, none⟩)] w fun e w' => (∃ (z : Int) (k : Bool), e = .returned (.tuple #[.int .i64 z, .bool k])) ∧ Ext w w' := by
  have H := hide h
  have c3 : w.cell? ⟨hr, 3, none⟩ = some (.slice (some ⟨g, 0, none⟩) n cp) := h.box.cell 3
  clear h
  go_enter Tryz.func117, Tryz.ntmps117
  go_upto_region 3 with fail
  clear c3
  go_loopw [4, 5, 13] (LwRel n · · · w) (fun _ _ v _ => n - (intOf v).toNat)
  case atStart => exact ⟨0, 0, false, rfl, rfl, rfl, Nat.zero_le _, Ext.refl _⟩
  case round =>
    obtain ⟨i, z, k, rfl, rfl, rfl, hi, hx⟩ := hrel
    have HX := hide hx
    have HR := hide (H.out.ext hx)
    clear hx
    by_cases hlt : i < n
    · have hlt' : (i : Int) < (n : Int) := by omega
      obtain ⟨cs, hcl, hcr, hck⟩ := HR.out.range i hlt
      have HLD := hide hcr
      have HSZ := hide (show (Tryz.prog.info? 118).map (·.size) = some cs.length from by rw [hcl]; exact task_size)
      have HBW := hide (Blk.new wr 118 #[.int .i64 0, .int .i64 0, .int .i64 0, .int .i64 0, .int .i64 0, .int .i64 0, .int .i64 0, .int .i64 0, .int .i64 0, .int .i64 0, .int .i64 0, .int .i64 0, .bool false, .bool false, .int .i64 0])
      have HTH := hide (HBW.out.there_ 0 cs.toArray.size (by rw [List.size_toArray, hcl]; exact Nat.le_refl _))
      have HON := hide (kind_one hcl hck)
      have HXW := hide (HX.out.alloc (.cells #[.int .i64 0, .int .i64 0, .int .i64 0, .int .i64 0, .int .i64 0, .int .i64 0, .int .i64 0, .int .i64 0, .int .i64 0, .int .i64 0, .int .i64 0, .int .i64 0, .bool false, .bool false, .int .i64 0] 118))
      have HBS := hide (HBW.out.setAll cs hcl)
      have HXC := hide (show Ext w ((wr.alloc (.cells #[.int .i64 0, .int .i64 0, .int .i64 0, .int .i64 0, .int .i64 0, .int .i64 0, .int .i64 0, .int .i64 0, .int .i64 0, .int .i64 0, .int .i64 0, .int .i64 0, .bool false, .bool false, .int .i64 0] 118)).setCells wr.heap.size 0 cs) from HXW.out.setCells HX.out.size 0 cs)
      go_upto_region 5 with (first | ((with_reducible refine wpList_load_mid rfl 118 (.tmp 15) rfl g (i * 15) rfl cs _ HLD.out Tryz.underlying118 rfl HSZ.out ?_)) | ((with_reducible refine wpList_store_mid rfl 118 (.tmp 7) (.tmp 16) rfl wr.heap.size 0 cs.toArray rfl ?_ HTH.out ?_ HON.out ?_); (exact rfl); (rw [List.size_toArray, hcl]; exact task_size)))
      obtain ⟨u1, hu1, e1⟩ := hck 1 (by omega)
      obtain rfl : u1 = .int .i64 1 := e1
      obtain ⟨u12, hu12, e12⟩ := hck 12 (by omega)
      obtain ⟨r, rfl⟩ : ∃ r : Bool, u12 = .bool r := e12
      obtain ⟨u9, hu9, e9⟩ := hck 9 (by omega)
      obtain ⟨v, rfl⟩ : ∃ v : Int, u9 = .int .i64 v := e9
      change Code.wp _ _ _ _ ((wr.alloc _).setCells wr.heap.size 0 cs)
      have k1 := (HBS.out.cell 1).trans ((List.getElem?_toArray).trans hu1)
      have k12 := (HBS.out.cell 12).trans ((List.getElem?_toArray).trans hu12)
      have k9 := (HBS.out.cell 9).trans ((List.getElem?_toArray).trans hu9)
      clear HLD HSZ HBW HTH HON HXW HBS hcr hck hu1 hu12 hu9
      generalize (wr.alloc _).setCells _ _ _ = W2 at *
      generalize wr.heap.size = g2 at *
      cases r with
      | false =>
        go_wp2_with fail
        go_roundw
        case rel => exact ⟨i + 1, _, _, by first | rfl | go_num, rfl, rfl, by omega, HXC.out⟩
        case measure => simp [intOf]; omega
      | true =>
        cases k with
        | false =>
          go_wp2_with fail
          go_roundw
          case rel => exact ⟨i + 1, _, _, by first | rfl | go_num, rfl, rfl, by omega, HXC.out⟩
          case measure => simp [intOf]; omega
        | true =>
          by_cases hv : v < z
          · go_wp2_with fail
            go_roundw
            case rel => exact ⟨i + 1, _, _, by first | rfl | go_num, rfl, rfl, by omega, HXC.out⟩
            case measure => simp [intOf]; omega
          · have t1 : decide (v < z) = false := decide_eq_false hv
            go_wp2_with fail
            go_roundw
            case rel => exact ⟨i + 1, _, _, by first | rfl | go_num, rfl, rfl, by omega, HXC.out⟩
            case measure => simp [intOf]; omega
    · obtain rfl : i = n := by omega
      go_wp2_with fail
      go_ret2
      exact ⟨⟨_, _, rfl⟩, HX.out⟩
end Go.Proofs.YthmojneobkaolaaGreatDoor
