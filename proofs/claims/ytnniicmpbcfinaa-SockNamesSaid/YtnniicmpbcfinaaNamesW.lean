/- The walk of SockNames. -/
import Derived.Test.YtnniicmpbcfinaaNamesLeaf
import Derived.Test.YtnniicmpbcfinaaRest
namespace Go.Proofs.Ytnniicmpbcfinaa
open Go.RowKit
set_option linter.unusedVariables false

def st4 (a b c d : Option SkD) : Nat → Option SkD := fun i => if i = 0 then a else if i = 1 then b else if i = 2 then c else if i = 3 then d else none
theorem st4_none : (fun _ => none) = st4 none none none none := by funext x; unfold st4; simp
theorem st4_0 (a b c d v : Option SkD) : updN (st4 a b c d) 0 v = st4 v b c d := by
  funext x
  unfold updN st4
  by_cases e : x = 0
  · subst e; rfl
  · simp [e]
theorem st4_1 (a b c d v : Option SkD) : updN (st4 a b c d) 1 v = st4 a v c d := by
  funext x
  unfold updN st4
  by_cases e : x = 1
  · subst e; rfl
  · simp [e]
theorem st4_2 (a b c d v : Option SkD) : updN (st4 a b c d) 2 v = st4 a b v d := by
  funext x
  unfold updN st4
  by_cases e : x = 2
  · subst e; rfl
  · simp [e]
theorem st4_3 (a b c d v : Option SkD) : updN (st4 a b c d) 3 v = st4 a b c v := by
  funext x
  unfold updN st4
  by_cases e : x = 3
  · subst e; rfl
  · simp [e]
theorem st4_cases {a b c d : Option SkD} {i : Nat} {e : SkD} (h : st4 a b c d i = some e) : (i = 0 ∧ a = some e) ∨ (i = 1 ∧ b = some e) ∨ (i = 2 ∧ c = some e) ∨ (i = 3 ∧ d = some e) := by
  unfold st4 at h
  split at h
  · exact .inl ⟨by assumption, h⟩
  · split at h
    · exact .inr (.inl ⟨by assumption, h⟩)
    · split at h
      · exact .inr (.inr (.inl ⟨by assumption, h⟩))
      · split at h
        · exact .inr (.inr (.inr ⟨by assumption, h⟩))
        · cases h
def nT (port : Int) : Nat → Nat → Option SkD
  | 0 => st4 (some (hearD port 1 [4])) (some skZero) (some (joinD port 4 [] false)) (some (joinD port 3 [] false))
  | _ + 1 => st4 (some (hearD port 1 [4])) (some skZero) (some (joinD port 0 [] false)) none
abbrev nmD (port : Int) : SkD := { skZero with kind := 1, port := port }
theorem zero_not (port : Int) (hp : 1 ≤ port) : ¬ Has port skZero := by
  rintro ⟨h1, -⟩
  simp only [skZero] at h1
  omega
theorem join_not (port peer : Int) (inn : List UInt8) (sh : Bool) : ¬ Has port (joinD port peer inn sh) := by
  rintro ⟨-, h1⟩
  exact h1 rfl
set_option maxHeartbeats 4000000 in
set_option maxRecDepth 100000 in
theorem names_walk (z : Int) (hz : -9223372036854775808 ≤ z ∧ z ≤ 9223372036854775807) (w : World) :
    Calls Try.prog 5 #[.int .i64 z] w fun e w' => e = .returned (.bool true) ∧ Ext w w' := by
  go_enter Try.func5, Try.ntmps5
  go_wp2_with fail
  refine (rest_any z 99 _ hz.1 hz.2 (by omega) (by omega)).mono ?_
  rintro e w' ⟨rfl, rfl⟩
  have r1 := restZ_lo z 99 (by omega)
  have r2 := restZ_hi z 99 (by omega)
  clear hz
  generalize restZ z 99 = p0 at *
  have HP := hide (show 1 ≤ 1 + p0 ∧ 1 + p0 ≤ 99 by omega)
  go_wp2_with fail
  generalize 1 + p0 = port at *
  clear r1 r2
  refine (new_any w).mono ?_
  rintro e w1 ⟨rfl, h1⟩
  rw [st4_none] at h1
  have H1 := hide h1
  clear h1
  go_wp2_with fail
  refine (make_at 0 w1 H1.out (by omega) rfl (by omega)).mono ?_
  rintro e w2 ⟨rfl, h2, -⟩
  rw [st4_0] at h2
  have H2 := hide h2
  clear h2 H1
  generalize updN MemZ 0 ⟨w1.heap.size, nilV, nilV⟩ = M2 at *
  go_wp2_with fail
  refine (make_at 1 w2 H2.out (by omega) rfl (fun j hj => by obtain rfl : j = 0 := (by omega); rfl)).mono ?_
  rintro e w3 ⟨rfl, h3, -⟩
  rw [st4_1] at h3
  have H3 := hide h3
  clear h3 H2
  generalize updN M2 1 ⟨w2.heap.size, nilV, nilV⟩ = M3 at *
  go_wp2_with fail
  refine (make_at 2 w3 H3.out (by omega) rfl (fun j hj => by
    have : j = 0 ∨ j = 1 := by omega
    rcases this with rfl | rfl <;> rfl)).mono ?_
  rintro e w4 ⟨rfl, h4, -⟩
  rw [st4_2] at h4
  have H4 := hide h4
  clear h4 H3
  generalize updN M3 2 ⟨w3.heap.size, nilV, nilV⟩ = M4 at *
  go_wp2_with fail
  refine (name_ok 0 skZero port w4 H4.out (by omega) rfl rfl HP.out (fun j e he => by
    rcases st4_cases he with ⟨-, h⟩ | ⟨-, h⟩ | ⟨-, h⟩ | ⟨-, h⟩
    · injection h with h; subst h; exact zero_not port HP.out.1
    · injection h with h; subst h; exact zero_not port HP.out.1
    · injection h with h; subst h; exact zero_not port HP.out.1
    · cases h)).mono ?_
  rintro e w5 ⟨rfl, h5, -⟩
  rw [st4_0] at h5
  have H5 := hide h5
  clear h5 H4
  go_wp2_with fail
  refine (name_there 1 0 skZero (nmD port) port w5 H5.out (by omega) rfl rfl HP.out (by omega) rfl ⟨rfl, by simp⟩ (fun j e hj => absurd hj (by omega))).mono ?_
  rintro e w' ⟨rfl, rfl⟩
  go_wp2_with fail
  refine (reach_pipe 2 0 skZero (nmD port) port w5 H5.out (by omega) rfl rfl HP.out (by omega) rfl rfl rfl (fun j e hj => absurd hj (by omega))).mono ?_
  rintro e w' ⟨rfl, rfl⟩
  go_wp2_with fail
  refine (hear_ok 0 (nmD port) 1 w5 H5.out (by omega) rfl rfl (by omega)).mono ?_
  rintro e w6 ⟨rfl, h6, -⟩
  rw [st4_0] at h6
  have H6 := hide (show SkAt w w.heap.size (st4 (some (hearD port 1 [])) (some skZero) (some skZero) none) M4 w6 from h6)
  clear h6 H5
  go_wp2_with fail
  refine (reach_ok 2 0 3 skZero (hearD port 1 []) port w6 H6.out (by omega) rfl rfl HP.out (by omega) rfl rfl rfl (fun j d hj => absurd hj (by omega)) (by simp [hearD]) (by simp [hearD]) (by omega) rfl (fun j hj => by
    have : j = 0 ∨ j = 1 ∨ j = 2 := by omega
    rcases this with rfl | rfl | rfl <;> rfl)).mono ?_
  rintro e w7 ⟨rfl, bk, vq, h7⟩
  rw [st4_3, st4_2, st4_0] at h7
  have H7 := hide (show SkAt w w.heap.size (st4 (some (hearD port 1 [4])) (some skZero) (some (joinD port 4 [] false)) (some (joinD port 3 [] false))) _ w7 from h7)
  clear h7 H6
  generalize updN (updN M4 3 ⟨bk, nilV, nilV⟩) 0 ⟨(M4 0).b, vq, (M4 0).vi⟩ = M7 at *
  go_wp2_with fail
  refine (drop_ok 0 (hearD port 1 [4]) [3] (nT port) (st4 none (some skZero) (some (joinD port 0 [] false)) none) w7 H7.out (by omega) rfl rfl (by simp)
    (fun j e he => by
      rcases st4_cases he with ⟨-, h⟩ | ⟨-, h⟩ | ⟨-, h⟩ | ⟨-, h⟩ <;> injection h with h <;> subst h <;> simp [hearD, joinD, skZero]) rfl
    (fun k _ => by cases k <;> exact ⟨_, rfl, rfl⟩)
    (fun k _ j hj => by
      cases k with
      | zero => exact hj
      | succ k =>
        obtain ⟨e, he⟩ := Option.isSome_iff_exists.mp hj
        rcases st4_cases he with ⟨rfl, h⟩ | ⟨rfl, h⟩ | ⟨rfl, h⟩ | ⟨rfl, h⟩
        · rfl
        · rfl
        · rfl
        · cases h)
    (fun k hk => by
      obtain rfl : k = 0 := by simpa using hk
      intro M' w' _ hsk
      have hsk' : SkAt w w.heap.size (st4 (some (hearD port 1 [4])) (some skZero) (some (joinD port 4 [] false)) (some (joinD port 3 [] false))) M' w' := hsk
      have := gone_pair 3 2 (joinD port 3 [] false) (joinD port 4 [] false) w' hsk' (by omega) rfl (by omega) rfl rfl
      rw [st4_2, st4_3] at this
      exact this)
    (fun M' w' _ hsk => by
      have hsk' : SkAt w w.heap.size (st4 (some (hearD port 1 [4])) (some skZero) (some (joinD port 0 [] false)) none) M' w' := hsk
      have := gone_lone 0 (hearD port 1 [4]) w' hsk' (by omega) rfl rfl
      rw [st4_0] at this
      exact this)).mono ?_
  rintro e w8 ⟨rfl, M8, -, h8, -⟩
  have H8 := hide h8
  clear h8 H7
  go_wp2_with fail
  refine (read_ok 2 (joinD port 0 [] false) 9 0 _ w8 H8.out (by omega) rfl (joined_lone 2 (joinD port 0 [] false) w8 H8.out (by omega) rfl rfl rfl) (by omega) (by simp [joinD]) (by simp [joinD]) (.inr (.inl rfl))).mono ?_
  rintro e w9 ⟨A9, c9, rfl, -, vi9, h9, -⟩
  rw [st4_2] at h9
  have H9 := hide (show SkAt w w.heap.size (st4 none (some skZero) (some (joinD port 0 [] false)) none) _ w9 from h9)
  clear h9 H8
  generalize updN M8 2 ⟨(M8 2).b, (M8 2).vq, vi9⟩ = M9 at *
  have hcv := Lib.run_convert_bytes_const (P := Try.prog) w9 22 5 #[.int .u8 120] 1 1 Try.underlying22 Try.underlying5
  have HXB := hide ((Ext.refl w9).alloc (.cells #[.int .u8 120] 5 (1, 2)))
  go_wp2_with fail
  refine (write_pipe 2 (joinD port 0 [] false) _ 1 _ _ (H9.out.more HXB.out) (by omega) rfl rfl rfl rfl (by omega)).mono ?_
  rintro e w' ⟨rfl, rfl⟩
  have H10 := hide (H9.out.more HXB.out)
  clear hcv H9 HXB
  generalize w9.alloc (.cells #[.int .u8 120] 5 (1, 2)) = w10 at *
  go_wp2_with fail
  refine (name_ok 1 skZero port w10 H10.out (by omega) rfl rfl HP.out (fun j e he => by
    rcases st4_cases he with ⟨-, h⟩ | ⟨-, h⟩ | ⟨-, h⟩ | ⟨-, h⟩
    · cases h
    · injection h with h; subst h; exact zero_not port HP.out.1
    · injection h with h; subst h; exact join_not port 0 [] false
    · cases h)).mono ?_
  rintro e w11 ⟨rfl, h11, -⟩
  rw [st4_1] at h11
  have H11 := hide h11
  clear h11 H10
  go_wp2_with fail
  refine (list_at w11 H11.out).mono ?_
  rintro e w12 ⟨A12, n12, c12, rfl, o12, x12⟩
  have HO := hide (show w12.ownsRow w11.heap.size 3 1 (.slice A12 n12 c12) n12 (intsV [2, 3]) from o12)
  have HE := hide (H11.out.ext.trans x12)
  clear o12 x12 H11
  have hn12 : n12 = 2 := by have := (Reads.of_own HO.out).1; simp [intsV] at this; omega
  subst hn12
  go_wp2_with fail
  have HA := hide ((Ext.refl w12).alloc (.cells #[.int .i64 2, .int .i64 3] 3))
  refine (equal_ints A12 2 c12 _ [2, 3] _ 2 2 _ [2, 3] _ (HA.out.reads (Reads.of_own HO.out) (Nat.le_refl _)) (Blk.new w12 3 #[.int .i64 2, .int .i64 3]).reads (by simp [maxLen]) (by simp [maxLen])).mono ?_
  rintro e w' ⟨rfl, dd, rfl⟩
  go_wp2_with fail
  go_ret
  exact ⟨by simp, (HE.out.trans HA.out).drewN dd⟩
end Go.Proofs.Ytnniicmpbcfinaa
