/- The walk of SockTalks. -/
import Derived.Test.YtnniicmpbcfinaaMeet
import Derived.Test.YtnniicmpbcfinaaRest
import Derived.Test.YtnniicmpbcfinaaCut
namespace Go.Proofs.Ytnniicmpbcfinaa
open Go.RowKit
set_option linter.unusedVariables false

theorem read_wait {w0 : World} {gs : Nat} {S : Nat → Option SkD} {M : Nat → MemS} (i j : Nat) (di dj : SkD) (n : Nat) (w : World) (h : SkAt w0 gs S M w) (hi : i < 16) (hSi : S i = some di) (hki : di.kind = 3) (hin : di.inn = []) (hj : j < 16) (hpe : di.peer = (j : Int) + 1) (hSj : S j = some dj) (hsh : dj.shut = false) (hn : n ≤ 256) (hn0 : 0 < n) :
    Calls Try.prog 11 #[.pointer (some ⟨gs, 0, none⟩), .int .i64 ((i : Int) + 1), .int .i64 n] w fun e w' => e = .returned (.tuple #[nilV, .int .i64 9]) ∧ w = w' := by
  have HJ := hide (joined_at i di w h hi hSi hki j hj hpe)
  have hbi := h.box i di hSi
  have hbj := h.box j dj hSj
  obtain ⟨Ai, ci, hvi, -, -, -⟩ := own_form (h.inn i di hSi)
  rw [hin] at hvi
  have c5 : w.cell? ⟨(M i).b, 5, none⟩ = some (M i).vi := hbi.cell 5
  rw [hvi] at c5
  have c6 : w.cell? ⟨(M j).b, 6, none⟩ = some (.bool dj.shut) := hbj.cell 6
  rw [hsh] at c6
  simp only [ptrS, hSj, Option.isSome_some, if_true] at HJ
  simp only [List.length_nil] at c5
  clear h hSi hSj hki hin hpe hsh hbi hbj hvi
  generalize (M i).b = bi at *
  generalize (M j).b = bj at *
  go_enter Try.func11, Try.ntmps11
  go_wp2_with fail
  refine HJ.out.mono ?_
  rintro e w' ⟨rfl, rfl⟩
  go_wp2_with fail
  go_ret2
  exact ⟨rfl, rfl⟩
theorem Lies.kept3 {w w' : World} {lo n : Nat} {A : Option Addr} {xs : List Value} {g : Nat} {v u : Value} (h : Lies w lo A n xs) (hk : Kept3 g v u w w') (hg : g < lo) (hv : ∀ k, v.ownBlock = some k → k < lo) (hu : ∀ k, u.ownBlock = some k → k < lo) : Lies w' lo A n xs :=
  h.keepAll hk.size (fun k h1 h2 => hk.block k h2 (by omega) (fun e => by have := hv k e.symm; omega) (fun e => by have := hu k e.symm; omega))
theorem Lies.grown {w w' : World} {lo n : Nat} {A : Option Addr} {xs : List Value} {g : Nat} (h : Lies w lo A n xs) (hk : w.grownBy w' (some g)) (hg : g < lo) : Lies w' lo A n xs :=
  h.keepAll hk.size (fun k h1 h2 => hk.block k h2 (fun e => by injection e with e; omega))
theorem nil_own {k lo : Nat} (h : Value.ownBlock nilV = some k) : k < lo := by simp [Value.ownBlock] at h

set_option maxHeartbeats 4000000 in
set_option maxRecDepth 100000 in
theorem talks_walk (z : Int) (hz : -9223372036854775808 ≤ z ∧ z ≤ 9223372036854775807) (A : Option Addr) (n c : Nat) (xs : List UInt8) (A' : Option Addr) (n' c' : Nat) (ys : List UInt8) (w : World) (hx : Reads w w.heap.size 1 A n (bytesV xs)) (hy : Reads w w.heap.size 1 A' n' (bytesV ys)) (hn : n ≤ c) (hc : c ≤ maxLen) (hn' : n' ≤ c') (hc' : c' ≤ maxLen) :
    Calls Try.prog 3 #[.int .i64 z, .slice A n c, .slice A' n' c'] w fun e w' => e = .returned (.bool true) ∧ Ext w w' := by
  obtain ⟨i0, hi0, hz0, hz1, hz2⟩ := info_parts byte_info
  have HX := hide hx
  have HY := hide hy
  have HZ := hide hz
  clear hx hy hz
  go_enter Try.func3, Try.ntmps3
  go_wp2_with fail
  refine (rest_any z 99 _ HZ.out.1 HZ.out.2 (by omega) (by omega)).mono ?_
  rintro e w' ⟨rfl, rfl⟩
  have r1 := restZ_lo z 99 (by omega)
  have r2 := restZ_hi z 99 (by omega)
  generalize restZ z 99 = p0 at *
  go_wp2_with fail
  refine (meet_any (1 + p0) w (by omega)).mono ?_
  rintro e w1 ⟨M, rfl, h1, m1, m2⟩
  generalize 1 + p0 = port at *
  have H1 := hide h1
  have HM1 := hide m1
  have HM2 := hide m2
  have hb1 : (M 1).b < w1.heap.size := (h1.box 1 _ rfl).lt
  have hb2 : (M 2).b < w1.heap.size := (h1.box 2 _ rfl).lt
  have HB1 := hide hb1
  have HB2 := hide hb2
  clear h1 m1 m2 r1 r2 hb1 hb2
  have hcv := Lib.run_convert_bytes_const (P := Try.prog) w1 22 5 #[.int .u8 120] 1 1 Try.underlying22 Try.underlying5
  have HL1 := hide (lies_lit w1 120 (1, 2))
  have HXA := hide ((Ext.refl w1).alloc (.cells #[.int .u8 120] 5 (1, 2)))
  go_wp2_with fail
  refine (cut_any A n c 60 _ hn hc (by omega)).mono ?_
  rintro e w' ⟨rfl, rfl⟩
  clear hcv
  obtain ⟨m, hm⟩ : ∃ m, m = min n 60 := ⟨_, rfl⟩
  rw [← hm]
  have hm60 : m ≤ 60 := by omega
  have hs1 : w1.heap.size ≤ (w1.alloc (.cells #[.int .u8 120] 5 (1, 2))).heap.size := by simp
  have HRX := hide (show Reads (w1.alloc (.cells #[.int .u8 120] 5 (1, 2))) w.heap.size 1 A m (bytesV (xs.take m)) by rw [← bytesV_take]; exact (H1.out.ext.trans HXA.out).reads (HX.out.take (by omega)) (Nat.le_refl _))
  generalize xs.take m = X at *
  have HLX := hide (show X.length = m by have := HRX.out.1; rw [bytesV_length] at this; omega)
  have H1A := hide (H1.out.more HXA.out)
  clear hm HX H1 HXA
  obtain ⟨w1a, hw1a⟩ : ∃ x, x = w1.alloc (.cells #[.int .u8 120] 5 (1, 2)) := ⟨_, rfl⟩
  have HL1' := hide (show Lies w1a w1.heap.size (some ⟨w1.heap.size, 0, none⟩) 1 (bytesV [120]) by rw [hw1a]; exact HL1.out)
  rw [← hw1a] at HRX H1A hs1 ⊢
  clear hw1a HL1
  go_wp2_with (at_builtin; refine wpList_append_lies _ rfl (.tmp 33) (.tmp 35) _ rfl i0 _ Try.underlying22 hi0 hz0 hz1 hz2 rfl w1.heap.size ⟨w1.heap.size, 0, none⟩ 1 (bytesV [120]) rfl HL1'.out hs1 (by omega) w.heap.size A m c (bytesV X) rfl HRX.out (bytesV_one _) (by simp only [maxLen]; omega) (by omega) ?_; intro A2 c2 w2 r2 hc2 x2; have hcv := Lib.run_convert_bytes_const (P := Try.prog) w2 22 5 #[.int .u8 121] 1 1 Try.underlying22 Try.underlying5)
  have HDX := hide (show Lies w2 w1.heap.size A2 (1 + m) (bytesV (120 :: X)) from r2)
  have H2 := hide (H1A.out.more x2)
  have hs2 : w1.heap.size ≤ w2.heap.size := by have := x2.size; omega
  have HL2 := hide (lies_lit w2 121 (1, 2))
  have HXB := hide ((Ext.refl w2).alloc (.cells #[.int .u8 121] 5 (1, 2)))
  clear r2 x2 hcv HL1' HRX H1A
  refine (cut_any A' n' c' 60 _ hn' hc' (by omega)).mono ?_
  rintro e w' ⟨rfl, rfl⟩
  obtain ⟨k, hk⟩ : ∃ m, m = min n' 60 := ⟨_, rfl⟩
  rw [← hk]
  have hk60 : k ≤ 60 := by omega
  have HRY := hide (show Reads (w2.alloc (.cells #[.int .u8 121] 5 (1, 2))) w.heap.size 1 A' k (bytesV (ys.take k)) by rw [← bytesV_take]; exact (H2.out.ext.trans HXB.out).reads (HY.out.take (by omega)) (Nat.le_refl _))
  generalize ys.take k = Y at *
  have HLY := hide (show Y.length = k by have := HRY.out.1; rw [bytesV_length] at this; omega)
  have H2A := hide (H2.out.more HXB.out)
  have HDX2 := hide (HDX.out.ext HXB.out)
  have hs3 : w2.heap.size ≤ (w2.alloc (.cells #[.int .u8 121] 5 (1, 2))).heap.size := by simp
  clear hk HY H2 HXB HDX
  obtain ⟨w2a, hw2a⟩ : ∃ x, x = w2.alloc (.cells #[.int .u8 121] 5 (1, 2)) := ⟨_, rfl⟩
  have HL2' := hide (show Lies w2a w1.heap.size (some ⟨w2.heap.size, 0, none⟩) 1 (bytesV [121]) by rw [hw2a]; exact HL2.out.less hs2)
  rw [← hw2a] at HRY H2A hs3 HDX2 ⊢
  clear hw2a HL2
  go_wp2_with (at_builtin; refine wpList_append_lies _ rfl (.tmp 38) (.tmp 40) _ rfl i0 _ Try.underlying22 hi0 hz0 hz1 hz2 rfl w1.heap.size ⟨w2.heap.size, 0, none⟩ 1 (bytesV [121]) rfl HL2'.out (by omega) (by omega) w.heap.size A' k c' (bytesV Y) rfl HRY.out (bytesV_one _) (by simp only [maxLen]; omega) (by omega) ?_; intro A3 c3 w3 r3 hc3 x3)
  have HDY := hide (show Lies w3 w1.heap.size A3 (1 + k) (bytesV (121 :: Y)) from r3)
  have HDX3 := hide (HDX2.out.ext x3)
  have H3 := hide (H2A.out.more x3)
  have hs13 : w1.heap.size ≤ w3.heap.size := by have := x3.size; omega
  clear r3 x3 HL2' HRY H2A HDX2 hs1 hs3
  have hb2 := HB2.out
  have hb1 := HB1.out
  refine (write_ok 1 2 (joinD port 3 [] false) (joinD port 2 [] false) A2 (1 + m) c2 w3.heap.size (120 :: X) w3 H3.out (by omega) rfl rfl rfl (by omega) rfl rfl HDX3.out.reads hc2 (by omega) (by simp [joinD]; omega)).mono ?_
  rintro e w4 ⟨rfl, vi4, h4, k4⟩
  rw [HM2.out] at k4
  have HDX4 := hide (HDX3.out.kept3 k4 hb2 (fun k h => nil_own h) (fun k h => nil_own h))
  have HDY4 := hide (HDY.out.kept3 k4 hb2 (fun k h => nil_own h) (fun k h => nil_own h))
  have H4 := hide h4
  have hs4 := k4.size
  clear h4 k4 HDX3 HDY H3
  go_wp2_with fail
  refine (write_ok 2 1 { joinD port 2 [] false with inn := [] ++ (120 :: X) } (joinD port 3 [] false) A3 (1 + k) c3 w4.heap.size (121 :: Y) w4 H4.out (by omega) rfl rfl rfl (by omega) rfl rfl HDY4.out.reads hc3 (by omega) (by simp [joinD]; omega)).mono ?_
  rintro e w5 ⟨rfl, vi5, h5, k5⟩
  rw [updN_other _ _ _ _ (by decide), HM1.out] at k5
  have HDX5 := hide (HDX4.out.kept3 k5 hb1 (fun k h => nil_own h) (fun k h => nil_own h))
  have HDY5 := hide (HDY4.out.kept3 k5 hb1 (fun k h => nil_own h) (fun k h => nil_own h))
  have H5 := hide h5
  have hs5 := k5.size
  clear h5 k5 HDX4 HDY4 H4
  have HX1 := hide (show (120 :: X).length = 1 + m by rw [List.length_cons, HLX.out]; omega)
  have HY1 := hide (show (121 :: Y).length = 1 + k by rw [List.length_cons, HLY.out]; omega)
  generalize (120 :: X : List UInt8) = U at *
  generalize (121 :: Y : List UInt8) = V at *
  go_wp2_with fail
  refine (read_ok 2 { joinD port 2 [] false with inn := [] ++ U } 64 (1 + m) _ w5 H5.out (by omega) rfl (joined_at 2 { joinD port 2 [] false with inn := [] ++ U } w5 H5.out (by omega) rfl rfl 1 (by omega) rfl) (by omega) (by simp [HX1.out]; omega) (by simp [HX1.out]; omega) (.inl (by simp [HX1.out]; omega))).mono ?_
  rintro e w6 ⟨A6, c6, rfl, o6, vi6, h6, g6⟩
  have HDP6 := hide (show Lies w6 w1.heap.size A6 (1 + m) (bytesV U) by
    have := lies_own (lo := w1.heap.size) o6 (by omega)
    rwa [List.nil_append, List.take_of_length_le (by rw [HX1.out]; exact Nat.le_refl _)] at this)
  have g6' : w5.grownBy w6 (some (M 2).b) := g6
  have HDX6 := hide (HDX5.out.grown g6' hb2)
  have HDY6 := hide (HDY5.out.grown g6' hb2)
  have H6 := hide h6
  have hs6 := g6'.size
  clear h6 g6 g6' o6 HDX5 HDY5 H5
  go_wp2_with fail
  refine (read_ok 1 { joinD port 3 [] false with inn := [] ++ V } 64 (1 + k) _ w6 H6.out (by omega) rfl (joined_at 1 { joinD port 3 [] false with inn := [] ++ V } w6 H6.out (by omega) rfl rfl 2 (by omega) rfl) (by omega) (by simp [HY1.out]; omega) (by simp [HY1.out]; omega) (.inl (by simp [HY1.out]; omega))).mono ?_
  rintro e w7 ⟨A7, c7, rfl, o7, vi7, h7, g7⟩
  have HDQ7 := hide (show Lies w7 w1.heap.size A7 (1 + k) (bytesV V) by
    have := lies_own (lo := w1.heap.size) o7 (by omega)
    rwa [List.nil_append, List.take_of_length_le (by rw [HY1.out]; exact Nat.le_refl _)] at this)
  have g7' : w6.grownBy w7 (some (M 1).b) := g7
  have HDX7 := hide (HDX6.out.grown g7' hb1)
  have HDY7 := hide (HDY6.out.grown g7' hb1)
  have HDP7 := hide (HDP6.out.grown g7' hb1)
  have H7 := hide h7
  clear h7 g7 g7' o7 HDX6 HDY6 HDP6 H6
  go_wp2_with fail
  refine (read_wait 1 2 _ _ 1 w7 H7.out (by omega) rfl rfl (show ([] ++ V).drop (1 + k) = [] from List.drop_of_length_le (by simp [HY1.out])) (by omega) rfl rfl rfl (by omega) (by omega)).mono ?_
  rintro e w' ⟨rfl, rfl⟩
  have s1 := conv_str (P := Try.prog) Try.underlying22 Try.underlying5 Try.underlying9 HDP7.out.reads c6
  have s2 := conv_str (P := Try.prog) Try.underlying22 Try.underlying5 Try.underlying9 HDX7.out.reads c2
  have s3 := conv_str (P := Try.prog) Try.underlying22 Try.underlying5 Try.underlying9 HDQ7.out.reads c7
  have s4 := conv_str (P := Try.prog) Try.underlying22 Try.underlying5 Try.underlying9 HDY7.out.reads c3
  have HE := hide H7.out.ext
  clear HDP7 HDX7 HDQ7 HDY7 H7
  generalize (⟨U.toArray⟩ : ByteArray) = sU at *
  generalize (⟨V.toArray⟩ : ByteArray) = sV at *
  go_wp2_with fail
  go_ret
  exact ⟨by simp, HE.out⟩
end Go.Proofs.Ytnniicmpbcfinaa
