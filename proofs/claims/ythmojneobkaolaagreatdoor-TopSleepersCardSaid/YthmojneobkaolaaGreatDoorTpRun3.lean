/- The run of processors, weakly: the best that waits, filling the processor. -/
import Derived.Test.YthmojneobkaolaaGreatDoorTpRun2
import Derived.Test.YthmojneobkaolaaGreatDoorSetC
import Derived.Test.YthmojneobkaolaaGreatDoorDraw
import Derived.Deep.RegionLaw
namespace Go.Proofs.YthmojneobkaolaaGreatDoor
open Go.RowKit
set_option linter.unusedVariables false

def BsRel (g n : Nat) (v5 v13 : Value) (w0 wr : World) : Prop := ∃ i : Nat, v13 = .int .i64 (i : Int) ∧ i ≤ n ∧ PtrT g n v5 ∧ Ext w0 wr
set_option maxHeartbeats 8000000 in
set_option maxRecDepth 100000 in
theorem best_any {b : Nat} {w : World} {hr g n cp : Nat} {tick stamp : Int} {xs : List Value} (h : RunM b w hr g n cp tick stamp xs) (hn : n ≤ 100) :
    Calls Tryz.prog 118 #[.pointer (some ⟨hr, 0, none⟩), .int .i64 0] w fun e w' => (∃ v, e = .returned v ∧ PtrT g n v) ∧ Ext w w' := by
  have H := hide h
  have c3 : w.cell? ⟨hr, 3, none⟩ = some (.slice (some ⟨g, 0, none⟩) n cp) := h.box.cell 3
  clear h
  go_enter Tryz.func118, Tryz.ntmps118
  go_upto_region 3 with fail
  clear c3
  go_loopw [5, 13] (BsRel g n · · w) (fun _ v _ => n - (intOf v).toNat)
  case atStart => exact ⟨0, rfl, Nat.zero_le _, .inl rfl, Ext.refl _⟩
  case round =>
    obtain ⟨i, rfl, hi, hpt, hx⟩ := hrel
    have HX := hide hx
    have HR := hide (H.out.ext hx)
    have HP := hide hpt
    have c3 : wr.cell? ⟨hr, 3, none⟩ = some (.slice (some ⟨g, 0, none⟩) n cp) := HR.out.box.cell 3
    clear hx hpt
    by_cases hlt : i < n
    · have hlt' : (i : Int) < (n : Int) := by omega
      have HT := hide (HR.out.task i hlt)
      have HW := hide (waits_any HT.out)
      obtain ⟨z, k11, -, -⟩ := HT.out.int 11 (by omega)
      go_wp2_with fail
      refine HW.out.mono ?_
      rintro e w1 ⟨⟨bw, rfl⟩, rfl⟩
      cases bw with
      | false =>
        go_wp2_with fail
        go_roundw
        case rel => exact ⟨i + 1, by first | rfl | go_num, by omega, HP.out, HX.out⟩
        case measure => simp [intOf]; omega
      | true =>
        by_cases hb : bits BinOp.and IntKind.i64 z 1 = 1
        · have t1 : (bits BinOp.and IntKind.i64 z 1 == 1) = true := by rw [hb]; rfl
          rcases HP.out with rfl | ⟨j, hj, rfl⟩
          · go_wp2_with fail
            go_roundw
            case rel => exact ⟨i + 1, by first | rfl | go_num, by omega, .inr ⟨i, hlt, rfl⟩, HX.out⟩
            case measure => simp [intOf]; omega
          · have HBT := hide (better_any HT.out (HR.out.task j hj))
            go_wp2_with fail
            refine HBT.out.mono ?_
            rintro e w2 ⟨⟨b2, rfl⟩, hx2⟩
            have HX2 := hide (HX.out.trans hx2)
            clear hx2
            cases b2 with
            | false =>
              go_wp2_with fail
              go_roundw
              case rel => exact ⟨i + 1, by first | rfl | go_num, by omega, .inr ⟨j, hj, rfl⟩, HX2.out⟩
              case measure => simp [intOf]; omega
            | true =>
              go_wp2_with fail
              go_roundw
              case rel => exact ⟨i + 1, by first | rfl | go_num, by omega, .inr ⟨i, hlt, rfl⟩, HX2.out⟩
              case measure => simp [intOf]; omega
        · have t1 : (bits BinOp.and IntKind.i64 z 1 == 1) = false := beq_eq_false_iff_ne.2 hb
          go_wp2_with fail
          go_roundw
          case rel => exact ⟨i + 1, by first | rfl | go_num, by omega, HP.out, HX.out⟩
          case measure => simp [intOf]; omega
    · obtain rfl : i = n := by omega
      go_wp2_with fail
      go_ret
      exact ⟨⟨_, rfl, HP.out⟩, HX.out⟩
/-- A field of one task is written. -/
theorem RunM.set {b : Nat} {w : World} {hr g n cp : Nat} {tick stamp : Int} {xs : List Value} (h : RunM b w hr g n cp tick stamp xs) (i f : Nat) (hi : i < n) (hf : f < 15) (u : Value) (hu : kindT f u) :
    RunM b (w.setCell ⟨g, i * 15 + f, none⟩ u) hr g n cp tick stamp (xs.set (i * 15 + f) u) ∧ KeepL b [114, 118] [] [] w (w.setCell ⟨g, i * 15 + f, none⟩ u) := by
  obtain ⟨cs, hcs, hbg⟩ : ∃ cs, Blk w g 118 cs ∧ b ≤ g := by
    rcases h.row.2 with ⟨hv, _⟩ | ⟨g', cap, cur, hv, hb, hh, _⟩
    · cases hv
    · injection hv with hv _ _
      injection hv with hv
      injection hv with hv
      subst hv
      exact ⟨cur, hh, hb⟩
  have hne : hr ≠ g := Blk.ne_ h.box hcs (by decide)
  exact ⟨⟨h.box.far (p := ⟨g, i * 15 + f, none⟩) hne u, h.ge, own_set h.row _ u, h.kind.set i f hi hf u hu⟩, KeepL.set hcs (.inl (by simp)) hbg _ _⟩
/-- The run's own numbers are written. -/
theorem RunM.head {b : Nat} {w : World} {hr g n cp : Nat} {tick stamp : Int} {xs : List Value} (h : RunM b w hr g n cp tick stamp xs) (z : Int) :
    RunM b (w.setCell ⟨hr, 2, none⟩ (.int .i64 z)) hr g n cp tick z xs ∧ RunM b (w.setCell ⟨hr, 1, none⟩ (.int .i64 z)) hr g n cp z stamp xs ∧ ∀ i v, KeepL b [114, 118] [] [] w (w.setCell ⟨hr, i, none⟩ v) := by
  have hne : Value.ownBlock (.slice (some ⟨g, 0, none⟩) n cp) ≠ some hr := own_blk_ne h.row h.box (by decide)
  exact ⟨⟨h.box.set_ 2 _, h.ge, own_far h.row (p := ⟨hr, 2, none⟩) hne _, h.kind⟩, ⟨h.box.set_ 1 _, h.ge, own_far h.row (p := ⟨hr, 1, none⟩) hne _, h.kind⟩, fun i v => KeepL.set h.box (.inl (by simp)) h.ge i v⟩
theorem RunM.frozen {b : Nat} {w : World} {hr g n cp : Nat} {tick stamp : Int} {xs : List Value} (h : RunM b w hr g n cp tick stamp xs) (i : Nat) : w.frozen? ⟨hr, i, none⟩ = false := h.box.frozen i
def RunK (b : Nat) (w : World) (hr g n cp : Nat) (w' : World) : Prop := (∃ tick stamp xs, RunM b w' hr g n cp tick stamp xs) ∧ KeepL b [114, 118] [] [] w w'
def FlRel (b : Nat) (w : World) (hr g n cp : Nat) (v : Value) (wr : World) : Prop := (v = .int .i64 0 ∧ w = wr) ∨ (v = .int .i64 1 ∧ RunK b w hr g n cp wr)
set_option maxHeartbeats 8000000 in
set_option maxRecDepth 100000 in
theorem fill_any {b : Nat} {w : World} {hr g n cp : Nat} {tick stamp : Int} {xs : List Value} (h : RunM b w hr g n cp tick stamp xs) (hn : n ≤ 100) :
    Calls Tryz.prog 51 #[.pointer (some ⟨hr, 0, none⟩)] w fun e w' => e = .returned (.tuple #[]) ∧ RunK b w hr g n cp w' := by
  have HON := hide (on_any h hn 0)
  have HBS := hide (best_any h hn)
  have c0 : w.cell? ⟨hr, 0, none⟩ = some (.int .i64 1) := h.box.cell 0
  have H := hide h
  clear h
  go_enter Tryz.func51, Tryz.ntmps51
  go_upto_region 1 with fail
  clear c0
  go_loopw [8] (FlRel b w hr g n cp) (fun v _ => 1 - (intOf v).toNat)
  case atStart => exact .inl ⟨rfl, rfl⟩
  case round =>
    rcases hrel with ⟨rfl, rfl⟩ | ⟨rfl, hk⟩
    · go_wp2_with fail
      refine HON.out.mono ?_
      rintro e w1 ⟨⟨v, rfl, hv⟩, rfl⟩
      rcases hv with rfl | ⟨i, hi, rfl⟩
      · go_wp2_with fail
        refine HBS.out.mono ?_
        rintro e w2 ⟨⟨v, rfl, hv⟩, hx2⟩
        have HX2 := hide hx2
        clear hx2
        rcases hv with rfl | ⟨i, hi, rfl⟩
        · go_wp2_with fail
          go_roundw
          case rel => exact .inr ⟨by first | rfl | go_num, ⟨_, _, _, H.out.ext HX2.out⟩, KeepL.of HX2.out _ _ _ _⟩
          case measure => simp [intOf]
        · have hs := (H.out.ext HX2.out).set i 14 hi (by omega) (.int .i64 0) ⟨0, rfl⟩
          obtain ⟨z, k14, -, -⟩ := ((H.out.ext HX2.out).task i hi).int 14 (by omega)
          have f14 := ((H.out.ext HX2.out).task i hi).2 14
          have HS := hide hs
          clear hs
          go_wp2_with fail
          go_roundw
          case rel => exact .inr ⟨by first | rfl | go_num, ⟨_, _, _, HS.out.1⟩, (KeepL.of HX2.out _ _ _ _).trans HS.out.2⟩
          case measure => simp [intOf]
      · go_wp2_with fail
        go_roundw
        case rel => exact .inr ⟨by first | rfl | go_num, ⟨_, _, _, H.out⟩, KeepL.refl _ _ _ _ _⟩
        case measure => simp [intOf]
    · have HK := hide hk
      clear hk
      go_wp2_with fail
      (first | go_end0 | ((try simp only [Exit.inBlock, Exit.then]); refine bodyPost_ret (results_none rfl _ _ _) rfl ?_))
      exact ⟨rfl, HK.out⟩
end Go.Proofs.YthmojneobkaolaaGreatDoor
