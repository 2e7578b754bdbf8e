/- The walk of SockParts. -/
import Derived.Test.YtnniicmpbcfinaaTalksW
import Derived.Test.YtnniicmpbcfinaaDrop
namespace Go.Proofs.Ytnniicmpbcfinaa
open Go.RowKit
set_option linter.unusedVariables false

theorem shut_ok {w0 : World} {gs : Nat} {S : Nat → Option SkD} {M : Nat → MemS} (i j : Nat) (d : SkD) (w : World) (h : SkAt w0 gs S M w) (hi : i < 16) (hS : S i = some d) (hk : d.kind = 3) (hsh : d.shut = false) (hj : j < 16) (hpe : d.peer = (j : Int) + 1) :
    Calls Try.prog 21 #[.pointer (some ⟨gs, 0, none⟩), .int .i64 ((i : Int) + 1)] w fun e w' => e = .returned (.int .i64 0) ∧ SkAt w0 gs (updN S i (some { d with shut := true })) M w' ∧ w.grownBy w' (some (M i).b) := by
  have HJ := hide (joined_at i d w h hi hS hk j hj hpe)
  have hb := h.box i d hS
  have c6 : w.cell? ⟨(M i).b, 6, none⟩ = some (.bool d.shut) := hb.cell 6
  rw [hsh] at c6
  have f6 := hb.frozen 6
  have hg := grown_set (World.grownBy.refl w (some (M i).b)) 6 (.bool true)
  have HR := hide (And.intro (h.cells (w' := w.setCell ⟨(M i).b, 6, none⟩ (.bool true)) i d { d with shut := true } hS hg (hb.set_ 6 _) rfl rfl) hg)
  generalize ptrS S M j = pj at *
  generalize (M i).b = bi at *
  clear h hS hk hb hg hsh hpe
  go_enter Try.func21, Try.ntmps21
  go_wp2_with fail
  refine HJ.out.mono ?_
  rintro e w' ⟨rfl, rfl⟩
  go_wp2_with fail
  go_ret
  exact ⟨rfl, HR.out⟩
theorem write_pipe {w0 : World} {gs : Nat} {S : Nat → Option SkD} {M : Nat → MemS} (i : Nat) (d : SkD) (D : Option Addr) (n cd : Nat) (w : World) (h : SkAt w0 gs S M w) (hi : i < 16) (hS : S i = some d) (hk : d.kind = 3) (hsh : d.shut = false) (hpe : d.peer = 0) (hn : n ≤ 256) :
    Calls Try.prog 10 #[.pointer (some ⟨gs, 0, none⟩), .int .i64 ((i : Int) + 1), .slice D n cd] w fun e w' => e = .returned (.tuple #[.int .i64 0, .int .i64 10]) ∧ w = w' := by
  have HJ := hide (joined_lone i d w h hi hS hk hpe)
  have hb := h.box i d hS
  have c6 : w.cell? ⟨(M i).b, 6, none⟩ = some (.bool d.shut) := hb.cell 6
  rw [hsh] at c6
  generalize (M i).b = bi at *
  clear h hS hk hb hsh hpe
  go_enter Try.func10, Try.ntmps10
  go_wp2_with fail
  refine HJ.out.mono ?_
  rintro e w' ⟨rfl, rfl⟩
  go_wp2_with fail
  go_ret2
  exact ⟨rfl, rfl⟩
theorem Lies.dk {w w' : World} {lo n : Nat} {A : Option Addr} {xs : List Value} {gs : Nat} {S : Nat → Option SkD} {M : Nat → MemS} (h : Lies w lo A n xs) (hk : DK gs S M w w') (hg : gs < lo) (hm : ∀ i, (S i).isSome = true → (M i).b < lo) : Lies w' lo A n xs :=
  h.keepAll hk.1 (fun k h1 h2 => hk.2 k h2 (by omega) (fun i hi e => by have := hm i hi; omega))
theorem meetS_cases {port : Int} {c a d : SkD} {i : Nat} (h : meetS port c a i = some d) : (i = 0 ∧ d = hearD port 2 []) ∨ (i = 1 ∧ d = c) ∨ (i = 2 ∧ d = a) := by
  unfold meetS at h
  split at h
  · injection h with h; exact .inl ⟨by assumption, h.symm⟩
  · split at h
    · injection h with h; exact .inr (.inl ⟨by assumption, h.symm⟩)
    · split at h
      · injection h with h; exact .inr (.inr ⟨by assumption, h.symm⟩)
      · cases h
theorem meetS_upd2 (port : Int) (c a a' : SkD) : updN (meetS port c a) 2 (some a') = meetS port c a' := by
  funext x
  unfold updN meetS
  by_cases e : x = 2
  · subst e; rfl
  · simp [e]
theorem meetS_upd1 (port : Int) (c a c' : SkD) : updN (meetS port c a) 1 (some c') = meetS port c' a := by
  funext x
  unfold updN meetS
  by_cases e : x = 1
  · subst e; rfl
  · simp [e]
set_option maxHeartbeats 4000000 in
set_option maxRecDepth 100000 in
theorem parts_walk (sh : Bool) (A : Option Addr) (n c : Nat) (xs : List UInt8) (w : World) (hx : Reads w w.heap.size 1 A n (bytesV xs)) (hn : n ≤ c) (hc : c ≤ maxLen) :
    Calls Try.prog 6 #[.slice A n c, .bool sh] w fun e w' => e = .returned (.bool true) ∧ Ext w w' := by
  obtain ⟨i0, hi0, hz0, hz1, hz2⟩ := info_parts byte_info
  have HX := hide hx
  clear hx
  go_enter Try.func6, Try.ntmps6
  go_wp2_with fail
  refine (meet_any 7 w (by omega)).mono ?_
  rintro e w1 ⟨M, rfl, h1, m1, m2⟩
  have H1 := hide h1
  have HM1 := hide m1
  have HM2 := hide m2
  have HB0 := hide ((h1.box 0 _ rfl).lt)
  have HB1 := hide ((h1.box 1 _ rfl).lt)
  have HB2 := hide ((h1.box 2 _ rfl).lt)
  have HGS := hide (show w.heap.size < w1.heap.size from h1.tab.lt)
  clear h1 m1 m2
  have hcv := Lib.run_convert_bytes_const (P := Try.prog) w1 22 5 #[.int .u8 120] 1 1 Try.underlying22 Try.underlying5
  have HL1 := hide (lies_lit w1 120 (1, 2))
  have HXA := hide ((Ext.refl w1).alloc (.cells #[.int .u8 120] 5 (1, 2)))
  go_wp2_with fail
  refine (cut_any A n c 60 _ hn hc (by omega)).mono ?_
  rintro e w' ⟨rfl, rfl⟩
  clear hcv
  obtain ⟨m, hm⟩ : ∃ m, m = min n 60 := ⟨_, rfl⟩
  rw [← hm]
  have hm60 : m ≤ 60 := by omega
  have hs1 : w1.heap.size ≤ (w1.alloc (.cells #[.int .u8 120] 5 (1, 2))).heap.size := by simp
  have HRX := hide (show Reads (w1.alloc (.cells #[.int .u8 120] 5 (1, 2))) w.heap.size 1 A m (bytesV (xs.take m)) by rw [← bytesV_take]; exact (H1.out.ext.trans HXA.out).reads (HX.out.take (by omega)) (Nat.le_refl _))
  generalize xs.take m = X at *
  have HLX := hide (show X.length = m by have := HRX.out.1; rw [bytesV_length] at this; omega)
  have H1A := hide (H1.out.more HXA.out)
  clear hm HX H1 HXA
  obtain ⟨w1a, hw1a⟩ : ∃ x, x = w1.alloc (.cells #[.int .u8 120] 5 (1, 2)) := ⟨_, rfl⟩
  have HL1' := hide (show Lies w1a w1.heap.size (some ⟨w1.heap.size, 0, none⟩) 1 (bytesV [120]) by rw [hw1a]; exact HL1.out)
  rw [← hw1a] at HRX H1A hs1 ⊢
  clear hw1a HL1
  go_wp2_with (at_builtin; refine wpList_append_lies _ rfl (.tmp 28) (.tmp 30) _ rfl i0 _ Try.underlying22 hi0 hz0 hz1 hz2 rfl w1.heap.size ⟨w1.heap.size, 0, none⟩ 1 (bytesV [120]) rfl HL1'.out hs1 (by omega) w.heap.size A m c (bytesV X) rfl HRX.out (bytesV_one _) (by simp only [maxLen]; omega) (by omega) ?_; intro A2 c2 w2 r2 hc2 x2)
  have HDX := hide (show Lies w2 w1.heap.size A2 (1 + m) (bytesV (120 :: X)) from r2)
  have H2 := hide (H1A.out.more x2)
  have hs2 : w1.heap.size ≤ w2.heap.size := by have := x2.size; omega
  clear r2 x2 HL1' HRX H1A hs1
  have HX1 := hide (show (120 :: X).length = 1 + m by rw [List.length_cons, HLX.out]; omega)
  generalize (120 :: X : List UInt8) = U at *
  clear HLX
  refine (write_ok 1 2 (joinD 7 3 [] false) (joinD 7 2 [] false) A2 (1 + m) c2 w2.heap.size U w2 H2.out (by omega) rfl rfl rfl (by omega) rfl rfl HDX.out.reads hc2 (by omega) (by simp [joinD]; omega)).mono ?_
  rintro e w3 ⟨rfl, vi3, h3, k3⟩
  rw [HM2.out] at k3
  have HDX3 := hide (HDX.out.kept3 k3 HB2.out (fun k h => nil_own h) (fun k h => nil_own h))
  rw [meetS_upd2] at h3
  have H3 := hide (show SkAt w w.heap.size (meetS 7 (joinD 7 3 [] false) (joinD 7 2 U false)) _ w3 from h3)
  have HMB := hide (show ∀ i, (meetS 7 (joinD 7 3 [] false) (joinD 7 2 U false) i).isSome = true → (updN M 2 ⟨(M 2).b, (M 2).vq, vi3⟩ i).b < w1.heap.size from fun i hi => by
    obtain ⟨d, hd⟩ := Option.isSome_iff_exists.mp hi
    rcases meetS_cases hd with ⟨rfl, -⟩ | ⟨rfl, -⟩ | ⟨rfl, -⟩
    · exact HB0.out
    · exact HB1.out
    · exact HB2.out)
  have hs3 := k3.size
  clear h3 k3 HDX H2
  generalize updN M 2 ⟨(M 2).b, (M 2).vq, vi3⟩ = M3 at *
  go_wp2_with fail
  refine (drop_ok 1 (joinD 7 3 [] false) [] (fun _ => meetS 7 (joinD 7 3 [] false) (joinD 7 2 U false)) (updN (updN (meetS 7 (joinD 7 3 [] false) (joinD 7 2 U false)) 2 (some (joinD 7 0 U false))) 1 none) w3 H3.out (by omega) rfl rfl (by simp)
    (fun j e he => by rcases meetS_cases he with ⟨-, rfl⟩ | ⟨-, rfl⟩ | ⟨-, rfl⟩ <;> simp [hearD, joinD]) rfl (fun k _ => ⟨_, rfl, rfl⟩) (fun k _ j hj => hj) (fun k hk => absurd hk (by simp))
    (fun M' w' _ hsk => gone_pair 1 2 (joinD 7 3 [] false) (joinD 7 2 U false) w' hsk (by omega) rfl (by omega) rfl rfl)).mono ?_
  rintro e w4 ⟨rfl, M4, sb4, h4, k4⟩
  have HDX4 := hide (HDX3.out.dk k4 HGS.out HMB.out)
  have H4 := hide h4
  have hs4 := k4.1
  have HB42 := hide (show (M4 2).b < w1.heap.size by rw [(sb4 2).1]; exact HMB.out 2 rfl)
  have e5 : ({ joinD 7 0 U false with inn := (joinD 7 0 U false).inn.drop (1 + m) } : SkD) = joinD 7 0 [] false := by simp only [joinD]; rw [List.drop_of_length_le (by rw [HX1.out]; exact Nat.le_refl _)]
  have e8 : ({ joinD 8 2 U false with inn := (joinD 8 2 U false).inn.drop (1 + m) } : SkD) = joinD 8 2 [] false := by simp only [joinD]; rw [List.drop_of_length_le (by rw [HX1.out]; exact Nat.le_refl _)]
  have E5 := hide e5
  have E8 := hide e8
  clear h4 k4 HDX3 H3 sb4 e5 e8
  cases sh with
  | false =>
    go_wp2_with fail
    refine (read_ok 2 (joinD 7 0 U false) 64 (1 + m) _ w4 H4.out (by omega) rfl (joined_lone 2 (joinD 7 0 U false) w4 H4.out (by omega) rfl rfl rfl) (by omega) (by simp only [joinD]; rw [HX1.out]; omega) (by simp only [joinD]; rw [HX1.out]; omega) (.inl (by simp only [joinD]; rw [HX1.out]; omega))).mono ?_
    rintro e w5 ⟨A5, c5, rfl, o5, vi5, h5, g5⟩
    rw [E5.out] at h5
    have HDP := hide (show Lies w5 w1.heap.size A5 (1 + m) (bytesV U) by
      have := lies_own (lo := w1.heap.size) o5 (by omega)
      simp only [joinD] at this
      rwa [List.take_of_length_le (by rw [HX1.out]; exact Nat.le_refl _)] at this)
    have HDX5 := hide (HDX4.out.grown g5 HB42.out)
    have H5 := hide h5
    have HB52 := hide (show (updN M4 2 ⟨(M4 2).b, (M4 2).vq, vi5⟩ 2).b < w1.heap.size from HB42.out)
    have hs5 := g5.size
    clear h5 g5 o5 HDX4 H4
    generalize updN M4 2 ⟨(M4 2).b, (M4 2).vq, vi5⟩ = M5 at *
    go_wp2_with fail
    refine (read_ok 2 (joinD 7 0 [] false) 64 0 _ w5 H5.out (by omega) (updN_same _ _ _) (joined_lone 2 (joinD 7 0 [] false) w5 H5.out (by omega) (updN_same _ _ _) rfl rfl) (by omega) (by simp [joinD]) (by simp [joinD]) (.inr (.inl rfl))).mono ?_
    rintro e w6 ⟨A6, c6, rfl, -, vi6, h6, g6⟩
    have HDP6 := hide (HDP.out.grown g6 HB52.out)
    have HDX6 := hide (HDX5.out.grown g6 HB52.out)
    have H6 := hide h6
    clear h6 g6 HDX5 H5 HDP
    have hcv := Lib.run_convert_bytes_const (P := Try.prog) w6 22 5 #[.int .u8 121] 1 1 Try.underlying22 Try.underlying5
    have HXB := hide ((Ext.refl w6).alloc (.cells #[.int .u8 121] 5 (1, 2)))
    go_wp2_with fail
    refine (write_pipe 2 (joinD 7 0 [] false) _ 1 _ _ (H6.out.more HXB.out) (by omega) (updN_same _ _ _) rfl rfl rfl (by omega)).mono ?_
    rintro e w' ⟨rfl, rfl⟩
    have HP7 := hide (HDP6.out.ext HXB.out)
    have HX7 := hide (HDX6.out.ext HXB.out)
    have HE := hide (H6.out.more HXB.out).ext
    clear hcv HDP6 HDX6 H6 HXB
    generalize w6.alloc (.cells #[.int .u8 121] 5 (1, 2)) = w7 at *
    have s1 := conv_str (P := Try.prog) Try.underlying22 Try.underlying5 Try.underlying9 HP7.out.reads c5
    have s2 := conv_str (P := Try.prog) Try.underlying22 Try.underlying5 Try.underlying9 HX7.out.reads c2
    clear HP7 HX7
    generalize (⟨U.toArray⟩ : ByteArray) = sU at *
    go_wp2_with fail
    go_ret
    exact ⟨by simp, HE.out⟩
  | true =>
    go_wp2_with fail
    refine (meet_any 8 w4 (by omega)).mono ?_
    rintro e w5 ⟨N, rfl, h5, n1, n2⟩
    have HRX4 := hide HDX4.out.reads
    have HE4 := hide H4.out.ext
    have HN1 := hide n1
    have HN2 := hide n2
    have HNB1 := hide ((h5.box 1 _ rfl).lt)
    have HNB2 := hide ((h5.box 2 _ rfl).lt)
    have H5 := hide h5
    clear HDX4 H4 h5 n1 n2 HB0 HB1 HB2 HGS HM1 HM2 HMB HB42
    go_wp2_with fail
    refine (write_ok 1 2 (joinD 8 3 [] false) (joinD 8 2 [] false) A2 (1 + m) c2 w4.heap.size U w5 H5.out (by omega) rfl rfl rfl (by omega) rfl rfl (H5.out.ext.reads HRX4.out (Nat.le_refl _)) hc2 (by omega) (by simp [joinD]; omega)).mono ?_
    rintro e w6 ⟨rfl, vi6, h6, k6⟩
    rw [meetS_upd2] at h6
    have H6 := hide (show SkAt w4 w4.heap.size (meetS 8 (joinD 8 3 [] false) (joinD 8 2 U false)) _ w6 from h6)
    have hs6 := k6.size
    have HV1 := hide (show (updN N 2 ⟨(N 2).b, (N 2).vq, vi6⟩ 1).vi = nilV from HN1.out)
    have HC1 := hide (show (updN N 2 ⟨(N 2).b, (N 2).vq, vi6⟩ 1).b < w6.heap.size from Nat.lt_of_lt_of_le HNB1.out hs6)
    have HC2 := hide (show (updN N 2 ⟨(N 2).b, (N 2).vq, vi6⟩ 2).b < w6.heap.size from Nat.lt_of_lt_of_le HNB2.out hs6)
    clear h6 k6 H5 HN1 HN2 HNB1 HNB2
    generalize updN N 2 ⟨(N 2).b, (N 2).vq, vi6⟩ = N6 at *
    go_wp2_with fail
    refine (shut_ok 1 2 (joinD 8 3 [] false) w6 H6.out (by omega) rfl rfl rfl (by omega) rfl).mono ?_
    rintro e w7 ⟨rfl, h7, g7⟩
    rw [meetS_upd1] at h7
    have H7 := hide (show SkAt w4 w4.heap.size (meetS 8 (joinD 8 3 [] true) (joinD 8 2 U false)) _ w7 from h7)
    have hs7 := g7.size
    clear h7 g7 H6
    have hc1 := HC1.out
    have hc2' := HC2.out
    go_wp2_with fail
    refine (read_ok 2 (joinD 8 2 U false) 64 (1 + m) _ w7 H7.out (by omega) rfl (joined_at 2 (joinD 8 2 U false) w7 H7.out (by omega) rfl rfl 1 (by omega) rfl) (by omega) (by simp only [joinD]; rw [HX1.out]; omega) (by simp only [joinD]; rw [HX1.out]; omega) (.inl (by simp only [joinD]; rw [HX1.out]; omega))).mono ?_
    rintro e w8 ⟨A8, c8, rfl, o8, vi8, h8, g8⟩
    rw [E8.out, meetS_upd2] at h8
    have HDP := hide (show Lies w8 w7.heap.size A8 (1 + m) (bytesV U) by
      have := lies_own (lo := w7.heap.size) o8 (Nat.le_refl _)
      simp only [joinD] at this
      rwa [List.take_of_length_le (by rw [HX1.out]; exact Nat.le_refl _)] at this)
    have H8 := hide h8
    have HV81 := hide (show (updN N6 2 ⟨(N6 2).b, (N6 2).vq, vi8⟩ 1).vi = nilV from HV1.out)
    have HC81 := hide (show (updN N6 2 ⟨(N6 2).b, (N6 2).vq, vi8⟩ 1).b < w7.heap.size from Nat.lt_of_lt_of_le HC1.out hs7)
    have HC82 := hide (show (updN N6 2 ⟨(N6 2).b, (N6 2).vq, vi8⟩ 2).b < w7.heap.size from Nat.lt_of_lt_of_le HC2.out hs7)
    clear h8 g8 o8 H7 HV1 HC1 HC2 hc1 hc2'
    generalize updN N6 2 ⟨(N6 2).b, (N6 2).vq, vi8⟩ = N8 at *
    have hc6 : w8.cell? ⟨(N8 1).b, 6, none⟩ = some (.bool true) := (H8.out.box 1 (joinD 8 3 [] true) rfl).cell 6
    have HC6 := hide hc6
    clear hc6
    go_wp2_with fail
    refine (read_ok 2 (joinD 8 2 [] false) 64 0 _ w8 H8.out (by omega) rfl (joined_at 2 (joinD 8 2 [] false) w8 H8.out (by omega) rfl rfl 1 (by omega) rfl) (by omega) (by simp [joinD]) (by simp [joinD]) (.inr (.inr ⟨(N8 1).b, rfl, HC6.out⟩))).mono ?_
    rintro e w9 ⟨A9, c9, rfl, -, vi9, h9, g9⟩
    rw [meetS_upd2] at h9
    have HDP9 := hide (HDP.out.grown g9 HC82.out)
    have H9 := hide (show SkAt w4 w4.heap.size (meetS 8 (joinD 8 3 [] true) (joinD 8 2 [] false)) _ w9 from h9)
    have HV91 := hide (show (updN N8 2 ⟨(N8 2).b, (N8 2).vq, vi9⟩ 1).vi = nilV from HV81.out)
    have HC91 := hide (show (updN N8 2 ⟨(N8 2).b, (N8 2).vq, vi9⟩ 1).b < w7.heap.size from HC81.out)
    clear h9 g9 HDP H8 HV81 HC81 HC82 HC6
    generalize updN N8 2 ⟨(N8 2).b, (N8 2).vq, vi9⟩ = N9 at *
    have hcv := Lib.run_convert_bytes_const (P := Try.prog) w9 22 5 #[.int .u8 121] 1 1 Try.underlying22 Try.underlying5
    have HL9 := hide (lies_lit w9 121 (1, 2))
    have HXB := hide ((Ext.refl w9).alloc (.cells #[.int .u8 121] 5 (1, 2)))
    go_wp2_with fail
    clear hcv
    refine (write_ok 2 1 (joinD 8 2 [] false) (joinD 8 3 [] true) _ 1 1 _ [121] _ (H9.out.more HXB.out) (by omega) rfl rfl rfl (by omega) rfl rfl HL9.out.reads (by omega) (by omega) (by simp [joinD])).mono ?_
    rintro e w10 ⟨rfl, vi10, h10, k10⟩
    rw [HV91.out] at k10
    have HP7 := hide ((HDP9.out.ext HXB.out).kept3 k10 HC91.out (fun k h => nil_own h) (fun k h => nil_own h))
    have HX7 := hide (h10.ext.reads HRX4.out (Nat.le_refl _))
    have HE := hide (HE4.out.trans h10.ext)
    clear HDP9 H9 HXB h10 k10 HL9
    have s1 := conv_str (P := Try.prog) Try.underlying22 Try.underlying5 Try.underlying9 HP7.out.reads c8
    have s2 := conv_str (P := Try.prog) Try.underlying22 Try.underlying5 Try.underlying9 HX7.out c2
    clear HP7 HX7
    generalize (⟨U.toArray⟩ : ByteArray) = sU at *
    go_wp2_with fail
    go_ret
    exact ⟨by simp, HE.out⟩
end Go.Proofs.Ytnniicmpbcfinaa
