/- The walk of SockTurns. -/
import Derived.Test.YtnniicmpbcfinaaTurnsPlain
import Derived.Test.YtnniicmpbcfinaaRest
import Derived.Deep.LoopGhost
namespace Go.Proofs.Ytnniicmpbcfinaa
open Go.RowKit
set_option linter.unusedVariables false

def TurnRel (w : World) (gs : Nat) (port : Int) (many gk : Nat) (i : Value) (wr : World) : Prop := ∃ (k : Nat) (M : Nat → MemS), k ≤ many ∧ gk = many - k ∧ i = .int .i64 k ∧ SkAt w gs (turnS port many k 0 (qs 0 k) false) M wr
def TakeRel (w : World) (gs : Nat) (port : Int) (many gk : Nat) (i : Value) (wr : World) : Prop := ∃ (k : Nat) (M : Nat → MemS), k ≤ many ∧ gk = many - k ∧ i = .int .i64 k ∧ SkAt w gs (turnS port many many k (qs k (many - k)) true) M wr
theorem turnS_no (port many : Int) (i j : Nat) (q : List Int) (late : Bool) : ∀ x d, x < 0 → turnS port many i j q late x = some d → ¬ Has port d := fun x d h => absurd h (by omega)

set_option maxHeartbeats 4000000 in
set_option maxRecDepth 100000 in
theorem turns_walk (z : Int) (hz : -9223372036854775808 ≤ z ∧ z ≤ 9223372036854775807) (y : Int) (hy : -9223372036854775808 ≤ y ∧ y ≤ 9223372036854775807) (A : Option Addr) (n c : Nat) (w : World) :
    Calls Try.prog 4 #[.int .i64 z, .int .i64 y, .slice A n c] w fun e w' => e = .returned (.bool true) ∧ Ext w w' := by
  have HZ := hide hz
  have HY := hide hy
  clear hz hy
  go_enter Try.func4, Try.ntmps4
  go_wp2_with fail
  refine (rest_any z 99 _ HZ.out.1 HZ.out.2 (by omega) (by omega)).mono ?_
  rintro e w' ⟨rfl, rfl⟩
  have r1 := restZ_lo z 99 (by omega)
  have r2 := restZ_hi z 99 (by omega)
  generalize restZ z 99 = p0 at *
  go_wp2_with fail
  refine (rest_any y 4 _ HY.out.1 HY.out.2 (by omega) (by omega)).mono ?_
  rintro e w' ⟨rfl, rfl⟩
  have r3 := restZ_lo y 4 (by omega)
  have r4 := restZ_hi y 4 (by omega)
  generalize restZ y 4 = m0 at *
  obtain ⟨many, hmany⟩ : ∃ m : Nat, 1 + m0 = (m : Int) := ⟨(1 + m0).toNat, by omega⟩
  have hm1 : 1 ≤ many := by omega
  have hm4 : many ≤ 4 := by omega
  obtain ⟨port, hport⟩ : ∃ p, 1 + p0 = p := ⟨_, rfl⟩
  have hp1 : 1 ≤ port := by omega
  have hp2 : port ≤ 99 := by omega
  go_upto_region 2 with fail
  clear hmany hport r1 r2 r3 r4
  go_wp2_with fail
  refine (new_any w).mono ?_
  rintro e w1 ⟨rfl, h1⟩
  have H1 := hide h1
  clear h1
  go_wp2_with fail
  refine (make_at 0 w1 H1.out (by omega) rfl (by omega)).mono ?_
  rintro e w2 ⟨rfl, h2, -⟩
  have H2 := hide h2
  clear h2 H1
  go_wp2_with fail
  refine (name_ok 0 skZero port w2 H2.out (by omega) (by simp [updN]) rfl ⟨hp1, hp2⟩ (fun j e he => by
    have : e = skZero := by
      unfold updN at he
      split at he
      · injection he with he; exact he.symm
      · cases he
    subst this
    rintro ⟨h1, -⟩
    simp only [skZero] at h1
    omega)).mono ?_
  rintro e w3 ⟨rfl, h3, -⟩
  have H3 := hide h3
  clear h3 H2
  go_wp2_with fail
  refine (hear_ok 0 { skZero with kind := 1, port := port } many w3 H3.out (by omega) (by simp [updN]) rfl (by omega)).mono ?_
  rintro e w4 ⟨rfl, h4, -⟩
  have H4 := hide (show ∃ M, SkAt w w.heap.size (turnS port many 0 0 (qs 0 0) false) M w4 from ⟨_, by
    have e : turnS port many 0 0 (qs 0 0) false = updN (updN (updN (fun _ => none) 0 (some skZero)) 0 (some { skZero with kind := 1, port := port })) 0 (some { skZero with kind := 2, port := port, many := (many : Int) }) := by
      funext x
      unfold turnS updN
      by_cases h0 : x = 0
      · subst h0; rfl
      · simp [h0]
    rw [e]
    exact h4⟩)
  clear h4 H3
  go_wp2_with fail
  go_loopg [53] many (TurnRel w w.heap.size port many)
  case atStart =>
    obtain ⟨M, h⟩ := H4.out
    exact ⟨0, M, Nat.zero_le _, rfl, rfl, h⟩
  case round =>
    obtain ⟨k, M, hk, hgk, rfl, h⟩ := hrel
    have H := hide h
    have HGK := hide hgk
    clear h hgk H4
    by_cases hlt : k < many
    · go_wp2_with fail
      refine (make_at (2 * k + 1) wr H.out (by omega) (turnS_free _ _ _ _ _ _ (Nat.le_refl _)) (fun j hj => turnS_some _ _ _ _ _ _ _ (by omega))).mono ?_
      rintro e w5 ⟨rfl, h5, -⟩
      rw [turnS_made] at h5
      have H5 := hide h5
      clear h5 H
      go_wp2_with fail
      refine (reach_ok (2 * k + 1) 0 (2 * k + 2) skZero (hearD port many (qs 0 k)) port w5 H5.out (by omega) (turnS_late _ _ _ _ _) rfl ⟨hp1, hp2⟩ (by omega) rfl rfl rfl (turnS_no _ _ _ _ _ _) (by simp only [hearD, qs_length]; omega) (by simp only [hearD, qs_length]; omega) (by omega) (turnS_far _ _ _ _ _ _ (Nat.le_refl _)) (fun j hj => by
        by_cases e : j = 2 * k + 1
        · subst e; rw [turnS_late]; rfl
        · exact turnS_some _ _ _ _ _ _ _ (by omega))).mono ?_
      rintro e w6 ⟨rfl, bk, vq, h6⟩
      have H6 := hide h6
      clear h6 H5
      have HB := hide (Blk.new w6 5 #[.int .u8 (k : Int)])
      have hbx : ((UInt8.ofNat k).toNat : Int) = (k : Int) := by simp; omega
      have HR := hide (show Reads (w6.alloc (.cells #[.int .u8 (k : Int)] 5)) (w6.alloc (.cells #[.int .u8 (k : Int)] 5)).heap.size 1 (some ⟨w6.heap.size, 0, none⟩) 1 (bytesV [UInt8.ofNat k]) by
        have := HB.out.reads
        rw [show bytesV [UInt8.ofNat k] = [.int .u8 (k : Int)] by simp only [bytesV, List.map_cons, List.map_nil, hbx]]
        exact this)
      have H7 := hide (H6.out.more ((Ext.refl w6).alloc (.cells #[.int .u8 (k : Int)] 5)))
      have hk8 : (k : Int) % 256 = (k : Int) := by omega
      clear H6 HB hbx
      go_wp2_with fail
      refine (write_ok (2 * k + 1) (2 * k + 2) { skZero with kind := 3, port := port, peer := ((2 * k + 2 : Nat) : Int) + 1 } (joinD port ((2 * k + 1 : Nat) + 1) [] false) _ 1 1 _ [UInt8.ofNat k] _ H7.out (by omega) (by rw [updN_other _ _ _ _ (by omega), updN_same]) rfl rfl (by omega) rfl (by rw [updN_other _ _ _ _ (by omega), updN_other _ _ _ _ (by omega), updN_same]; rfl) HR.out (by omega) (by omega) (by simp [joinD])).mono ?_
      rintro e w8 ⟨rfl, vi8, h8, -⟩
      have h8' := h8
      rw [show (hearD port many (qs 0 k)).queue ++ [((2 * k + 2 : Nat) : Int) + 1] = qs 0 (k + 1) from (qs_snoc k).symm] at h8'
      obtain ⟨M9, h9⟩ : ∃ M9, SkAt w w.heap.size (turnS port many (k + 1) 0 (qs 0 (k + 1)) false) M9 w8 := ⟨_, by
        rw [← turnS_next port many k (qs 0 k) (qs 0 (k + 1))]
        exact h8'⟩
      have H9 := hide h9
      clear h8 h8' h9 H7 HR hk8
      go_wp2_with fail
      go_roundg (many - (k + 1))
      case measure => have := HGK.out; omega
      case rel => exact ⟨k + 1, _, by omega, rfl, by go_num, H9.out⟩
    · obtain rfl : many = k := by omega
      go_wp2_with fail
      refine (make_at (2 * many + 1) wr H.out (by omega) (turnS_free _ _ _ _ _ _ (Nat.le_refl _)) (fun j hj => turnS_some _ _ _ _ _ _ _ (by omega))).mono ?_
      rintro e w5 ⟨rfl, h5, -⟩
      rw [turnS_made] at h5
      have H5 := hide h5
      clear h5 H
      go_wp2_with fail
      refine (reach_wait (2 * many + 1) 0 skZero (hearD port many (qs 0 many)) port w5 H5.out (by omega) (turnS_late _ _ _ _ _) rfl ⟨hp1, hp2⟩ (by omega) rfl rfl rfl (turnS_no _ _ _ _ _ _) (by simp only [hearD, qs_length])).mono ?_
      rintro e w6 ⟨rfl, d6, rfl⟩
      have H6 := hide (H5.out.more ((Ext.refl w5).drewN d6))
      clear H5
      generalize w5.drewN d6 = w6 at *
      go_wp2_with fail
      go_loopg [101] many (TakeRel w w.heap.size port many)
      case atStart => exact ⟨0, _, Nat.zero_le _, rfl, rfl, H6.out⟩
      case round =>
        obtain ⟨j, M2, hj, hgj, rfl, h⟩ := hrel
        have H := hide h
        have HGJ := hide hgj
        clear h hgj H6
        by_cases hlt2 : j < many
        · have HQ := hide (show qs j (many - j) = (((2 * j + 2 : Nat) : Int) + 1) :: qs (j + 1) (many - (j + 1)) by
            rw [← qs_cons]
            congr 1
            omega)
          go_wp2_with fail
          refine (accept_ok 0 (hearD port many (qs j (many - j))) _ _ wr H.out (by omega) rfl rfl HQ.out (by rw [qs_length]; omega)).mono ?_
          rintro e w7 ⟨rfl, vq7, h7, -⟩
          have H7 := hide h7
          clear h7 H
          have hin : inF j (2 * j + 2) = [UInt8.ofNat j] := by simp [inF]
          have HIN := hide hin
          clear hin
          go_wp2_with fail
          refine (read_ok (2 * j + 2) (joinD port ((2 * j + 1 : Nat) + 1) (inF j (2 * j + 2)) false) 9 1 _ w7 H7.out (by omega) (by rw [updN_other _ _ _ _ (by omega)]; exact turnS_a _ _ _ _ _ _ j hlt2) (joined_at (2 * j + 2) (joinD port ((2 * j + 1 : Nat) + 1) (inF j (2 * j + 2)) false) w7 H7.out (by omega) (by rw [updN_other _ _ _ _ (by omega)]; exact turnS_a _ _ _ _ _ _ j hlt2) rfl (2 * j + 1) (by omega) rfl) (by omega) (by simp [joinD, HIN.out]) (by simp [joinD, HIN.out]) (.inl (by simp [joinD, HIN.out]))).mono ?_
          rintro e w8 ⟨A8, c8, rfl, o8, vi8, h8, -⟩
          obtain ⟨M9, h9⟩ : ∃ M9, SkAt w w.heap.size (turnS port many many (j + 1) (qs (j + 1) (many - (j + 1))) true) M9 w8 := ⟨_, by
            rw [← turnS_read port many many j (qs j (many - j)) _ hlt2]
            exact h8⟩
          have o9 : w8.ownsRow w7.heap.size 5 1 (.slice A8 1 c8) 1 (bytesV [UInt8.ofNat j]) := by
            have := o8
            simp only [joinD, HIN.out] at this
            exact this
          have s1 := conv_str (P := Try.prog) Try.underlying22 Try.underlying5 Try.underlying9 (Reads.of_own o9) c8
          have hbx : ((UInt8.ofNat j).toNat : Int) = (j : Int) := by simp; omega
          have hrl : Reads (w8.alloc (.cells #[.int .u8 (j : Int)] 5)) (w8.alloc (.cells #[.int .u8 (j : Int)] 5)).heap.size 1 (some ⟨w8.heap.size, 0, none⟩) 1 (bytesV [UInt8.ofNat j]) := by
            have := (Blk.new w8 5 #[.int .u8 (j : Int)]).reads
            rw [show bytesV [UInt8.ofNat j] = [.int .u8 (j : Int)] by simp only [bytesV, List.map_cons, List.map_nil, hbx]]
            exact this
          have s2 := conv_str (P := Try.prog) Try.underlying22 Try.underlying5 Try.underlying9 hrl 1
          have H9 := hide (h9.more ((Ext.refl w8).alloc (.cells #[.int .u8 (j : Int)] 5)))
          have hk8 : (j : Int) % 256 = (j : Int) := by omega
          generalize (⟨[UInt8.ofNat j].toArray⟩ : ByteArray) = sU at *
          clear h8 h9 o8 o9 H7 hbx hrl HIN HQ
          go_wp2_with fail
          go_roundg (many - (j + 1))
          case measure => have := HGJ.out; omega
          case rel => exact ⟨j + 1, _, by omega, rfl, by go_num, H9.out⟩
        · obtain rfl : many = j := by omega
          have HQ := hide (show qs many (many - many) = [] by rw [Nat.sub_self]; rfl)
          go_wp2_with fail
          refine (accept_wait 0 (hearD port many (qs many (many - many))) wr H.out (by omega) rfl rfl HQ.out).mono ?_
          rintro e w' ⟨rfl, rfl⟩
          go_wp2_with fail
          refine (reach_ok (2 * many + 1) 0 (2 * many + 2) skZero (hearD port many (qs many (many - many))) port wr H.out (by omega) (turnS_late _ _ _ _ _) rfl ⟨hp1, hp2⟩ (by omega) rfl rfl rfl (turnS_no _ _ _ _ _ _) (by simp only [hearD, HQ.out, List.length_nil]; omega) (by simp only [hearD, HQ.out, List.length_nil]; omega) (by omega) (turnS_far _ _ _ _ _ _ (Nat.le_refl _)) (fun j hj => by
            by_cases e : j = 2 * many + 1
            · subst e; rw [turnS_late]; rfl
            · exact turnS_some _ _ _ _ _ _ _ (by omega))).mono ?_
          rintro e w9 ⟨rfl, bk9, vq9, h9⟩
          have HE := hide h9.ext
          clear h9
          go_wp2_with fail
          go_ret
          exact ⟨rfl, HE.out⟩
end Go.Proofs.Ytnniicmpbcfinaa
