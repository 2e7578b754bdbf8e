/- Contracts of Write, Read and Less of a pipe. -/
import Derived.Test.YtoicpnpahjmegaaPipeLeaf
import Derived.Deep.RegionLaw
namespace Go.Proofs.Ytoicpnpahjmegaa
open Go.RowKit
set_option linter.unusedVariables false

/-- What an operation leaves of a pipe: its ends, its bytes; nothing else has changed. -/
def PipeIs (base g : Nat) (r s : Int) (v : Value) (bs : List UInt8) (N : Nat) (w w' : World) : Prop :=
  bs.length = N ∧ ∃ A c, OneAt w' g r s (.slice A N c) ∧ w'.ownsRow base 5 1 (.slice A N c) N (bytesV bs) ∧ Kept g v w w' ∧
    (Value.ownBlock (.slice A N c) = v.ownBlock ∨ ∀ k, Value.ownBlock (.slice A N c) = some k → w.heap.size ≤ k)

theorem min_l (a b : Int) (h : a ≤ b) : min a b = a := by omega

set_option maxHeartbeats 2000000 in
set_option maxRecDepth 100000 in
theorem write_ok (gp i g : Nat) (all : Array Value) (r s : Int) (A : Option Addr) (L c base : Nat) (bs : List UInt8) (D : Option Addr) (n cd B : Nat) (ds : List UInt8) (w : World)
    (hb : Blk w gp 51 all) (hi : i < 16) (hp : all[i]? = some (.pointer (some ⟨g, 0, none⟩))) (ho : OneAt w g r s (.slice A L c)) (hown : w.ownsRow base 5 1 (.slice A L c) L (bytesV bs)) (hbase : base ≤ w.heap.size)
    (hbl : bs.length = L) (hL : L ≤ 64) (hr : r ≠ 0) (hs : s ≠ 0) (hd : Reads w B 1 D n (bytesV ds)) (hdl : ds.length = n) (hn : n ≤ 256) (hnc : n ≤ cd) (hfull : n = 0 ∨ L < 64) :
    Calls Try.prog 12 #[.pointer (some ⟨gp, 0, none⟩), .int .i64 ((i : Int) + 1), .slice D n cd] w fun e w' =>
      e = .returned (.tuple #[.int .i64 ((min n (64 - L) : Nat) : Int), .int .i64 0]) ∧ PipeIs base g r s (.slice A L c) (bs ++ ds.take (min n (64 - L))) (L + min n (64 - L)) w w' := by
  obtain ⟨i0, hi0, hz0, hz1, hz2⟩ := info_parts u8_info
  have HE := hide (end_ok gp i g all r s _ 1 w hb hi hp ho (by omega) (by simpa using hs))
  have k0 : w.cell? ⟨g, 0, none⟩ = some (.int .i64 r) := ho.cell 0
  have k2 : w.cell? ⟨g, 2, none⟩ = some (.slice A L c) := ho.cell 2
  have f2 := ho.frozen 2
  have HO := hide ho
  have HOWN := hide hown
  have hne := own_blk_ne hown ho (by decide)
  have HNE := hide hne
  have t0 : (r == 0) = false := by simpa using hr
  have HBL := hide hbl
  have HDL := hide hdl
  have hm1 : min n (64 - L) ≤ n := Nat.min_le_left _ _
  have hm2 : min n (64 - L) ≤ 64 - L := Nat.min_le_right _ _
  have HD := hide (show Reads w B 1 D (min n (64 - L)) (bytesV (ds.take (min n (64 - L)))) by rw [← bytesV_take]; exact hd.take hm1)
  have HMN := hide (show (if 64 - (L : Int) < (n : Int) then 64 - (L : Int) else (n : Int)) = ((min n (64 - L) : Nat) : Int) by split <;> omega)
  clear hb hp hown hne hr hs hd hbl hdl ho
  generalize hmm : min n (64 - L) = m at *
  have HMM := hide hmm
  clear hmm
  have hm0 : (0 : Int) ≤ (m : Int) := by omega
  have hmc : (m : Int) ≤ (cd : Int) := by omega
  have hmL : L + m ≤ 64 := by omega
  have tl : n = 0 ∨ ((L : Int) == 64) = false := by
    rcases hfull with h | h
    · exact .inl h
    · exact .inr (by rw [beq_eq_false_iff_ne]; omega)
  have HTL := hide tl
  clear tl
  go_enter Try.func12, Try.ntmps12
  go_wp2_with fail
  refine HE.out.mono ?_
  rintro e w' ⟨rfl, rfl⟩
  have tn : (¬ 0 < n) ∨ (0 < n ∧ ((L : Int) == 64) = false) := by
    by_cases h0 : 0 < n
    · exact .inr ⟨h0, HTL.out.resolve_left (by omega)⟩
    · exact .inl h0
  rcases tn with h0 | ⟨h0, t2⟩
  · obtain rfl : m = n := by have := HMM.out; omega
    go_upto_region 11 with fail
    have HOD := hide (Blk.drew HO.out)
    refine wp_region_noPanic ?_
    go_region_law ((refine step_append_any _ (by rfl) (.tmp 56) (.tmp 59) 22 (by rfl) base 5 i0 _ 1 1 Try.underlying22 hi0 hz0 hz1 hz2 rfl (by omega) (.slice A L c) L (bytesV bs) (by rfl) (HOWN.out).drew B D m cd (bytesV (ds.take m)) (by rfl) (HD.out).drew (bytesV_one _) (by simp only [maxLen]; omega) (by omega) hbase ?_; intro A4 c4 w4 ho4 hg4 ha4; have hb4 := HOD.out.grown hg4 (fun e => HNE.out e.symm); have c40 : w4.cell? ⟨g, 2, none⟩ = some (.slice A L c) := hb4.cell 2; have f40 := hb4.frozen 2))
    refine NoPanic.normal ?_
    go_wp2_with fail
    go_ret2
    refine ⟨rfl, by rw [List.length_append, HBL.out, List.length_take, HDL.out]; omega, A4, c4, hb4.set_ 2 _, ?_, ⟨hg4.os, hg4.tape, hg4.output, by have := hg4.size; simpa using this, fun k hk hkg hkv => ?_⟩, ?_⟩
    · rw [bytesV_append]
      exact own_far ho4 (p := ⟨g, 2, none⟩) (fun e => by
        rcases ha4 with h | h
        · exact HNE.out (h.symm.trans e)
        · have := h.symm.trans e
          injection this with this
          have h2 := HO.out.lt
          simp at this
          omega) _
    · rw [Below.heap_setCell _ _ _ _ (by show k ≠ g; exact hkg)]
      exact hg4.block k hk hkv
    · rcases ha4 with h | h
      · exact .inl h
      · exact .inr (fun k hk => by rw [h] at hk; injection hk with hk; simp at hk; omega)
  · go_upto_region 11 with fail
    rw [HMN.out]
    have HOD := hide (Blk.drew HO.out)
    refine wp_region_noPanic ?_
    go_region_law ((refine step_append_any _ (by rfl) (.tmp 56) (.tmp 59) 22 (by rfl) base 5 i0 _ 1 1 Try.underlying22 hi0 hz0 hz1 hz2 rfl (by omega) (.slice A L c) L (bytesV bs) (by rfl) (HOWN.out).drew B D m cd (bytesV (ds.take m)) (by rfl) (HD.out).drew (bytesV_one _) (by simp only [maxLen]; omega) (by omega) hbase ?_; intro A4 c4 w4 ho4 hg4 ha4; have hb4 := HOD.out.grown hg4 (fun e => HNE.out e.symm); have c40 : w4.cell? ⟨g, 2, none⟩ = some (.slice A L c) := hb4.cell 2; have f40 := hb4.frozen 2))
    refine NoPanic.normal ?_
    go_wp2_with fail
    go_ret2
    refine ⟨rfl, by rw [List.length_append, HBL.out, List.length_take, HDL.out]; omega, A4, c4, hb4.set_ 2 _, ?_, ⟨hg4.os, hg4.tape, hg4.output, by have := hg4.size; simpa using this, fun k hk hkg hkv => ?_⟩, ?_⟩
    · rw [bytesV_append]
      exact own_far ho4 (p := ⟨g, 2, none⟩) (fun e => by
        rcases ha4 with h | h
        · exact HNE.out (h.symm.trans e)
        · have := h.symm.trans e
          injection this with this
          have h2 := HO.out.lt
          simp at this
          omega) _
    · rw [Below.heap_setCell _ _ _ _ (by show k ≠ g; exact hkg)]
      exact hg4.block k hk hkv
    · rcases ha4 with h | h
      · exact .inl h
      · exact .inr (fun k hk => by rw [h] at hk; injection hk with hk; simp at hk; omega)
theorem sclone_any (A : Option Addr) (n c B : Nat) (xs : List Value) (w : World) (hr : Reads w B 1 A n xs) (h1 : ∀ u ∈ xs, u.oneCell' = true) (hB : B ≤ w.heap.size) (hc : n ≤ 140737488355328) (hA : A = none → n = 0) :
    Calls Try.prog 23 #[.slice A n c] w fun e w' => ∃ A' c', e = .returned (.slice A' n c') ∧ w'.ownsRow w.heap.size 5 1 (.slice A' n c') n xs ∧ Ext w w' := by
  obtain ⟨i0, hi0, hz0, hz1, hz2⟩ := info_parts u8_info
  have q : ∀ (w : World) (a : Option Addr) (n c n' c' : Nat), (binOp .eql 22 (.slice a n c) (.slice none n' c')).run Try.prog w = .ok (.bool a.isNone) w := fun w a n c n' c' => Lib.run_eql_slice_nil w _ _ a n c n' c' Try.underlying22
  rcases A with _ | ad
  · obtain rfl := hA rfl
    have hx : xs = [] := List.eq_nil_of_length_eq_zero (by simpa using hr.1)
    subst hx
    go_enter Try.func23, Try.ntmps23
    go_wp2
    go_ret
    exact ⟨_, _, rfl, World.ownsRow_nil _ _ _ _, Ext.refl _⟩
  · have hr' := hr.alloc hB (.cells #[] 5)
    have HR := hide hr'
    clear hr hr' hA
    go_enter Try.func23, Try.ntmps23
    go_wp2_with (at_builtin; refine wpList_append_any _ rfl (.tmp 5) (.tmp 6) _ rfl w.heap.size 5 i0 _ 1 1 Try.underlying22 hi0 hz0 hz1 hz2 rfl (by omega) _ 0 [] rfl (World.ownsRow_made w #[] 0 (Nat.le_refl _) (Nat.zero_le _) rfl) B (some ad) n c xs rfl HR.out h1 (by simp only [maxLen]; omega) (by omega) (by simp) ?_; intro A1 c1 w1 hown1 hg1 hat1)
    go_ret
    refine ⟨A1, c1, by simp, by simpa using hown1, ?_⟩
    exact ((Ext.refl w).alloc _).grown hg1 (fun k hk => by injection hk with hk; subst hk; exact Nat.le_refl _)

set_option maxHeartbeats 4000000 in
set_option maxRecDepth 100000 in
theorem read_ok (gp i g : Nat) (all : Array Value) (r s : Int) (A : Option Addr) (L c base : Nat) (bs : List UInt8) (n k : Nat) (w : World)
    (hb : Blk w gp 51 all) (hi : i < 16) (hp : all[i]? = some (.pointer (some ⟨g, 0, none⟩))) (ho : OneAt w g r s (.slice A L c)) (hown : w.ownsRow base 5 1 (.slice A L c) L (bytesV bs)) (hbase : base ≤ w.heap.size)
    (hbl : bs.length = L) (hL : L ≤ 64) (hr : r ≠ 0) (hn : n ≤ 256) (hk : (k = L ∧ L < n) ∨ (k = n ∧ n ≤ L)) (hcase : n = 0 ∨ 0 < L ∨ s ≤ 0) :
    Calls Try.prog 13 #[.pointer (some ⟨gp, 0, none⟩), .int .i64 ((i : Int) + 1), .int .i64 n] w fun e w' =>
      ∃ A2 c2, e = .returned (.tuple #[.slice A2 k c2, .int .i64 0]) ∧ w'.ownsRow base 5 1 (.slice A2 k c2) k (bytesV (bs.take k)) ∧ PipeIs base g r s (.slice A L c) (bs.drop k) (L - k) w w' := by
  obtain ⟨i0, hi0, hz0, hz1, hz2⟩ := info_parts u8_info
  have HE := hide (end_ok gp i g all r s _ 0 w hb hi hp ho (by omega) (by simpa using hr))
  have k0 : w.cell? ⟨g, 0, none⟩ = some (.int .i64 r) := ho.cell 0
  have k1 : w.cell? ⟨g, 1, none⟩ = some (.int .i64 s) := ho.cell 1
  have k2 : w.cell? ⟨g, 2, none⟩ = some (.slice A L c) := ho.cell 2
  have HO := hide ho
  have HOWN := hide hown
  have hne := own_blk_ne hown ho (by decide)
  have HNE := hide hne
  have HBL := hide hbl
  have hLc := (own_le hown).1
  have hkL : k ≤ L := by omega
  obtain ⟨A14, s14, r14, m14⟩ := cut_from (P := Try.prog) Try.underlying22 hi0 hz1 (Reads.of_own hown) k c hkL hLc .i64
  obtain ⟨d, hd⟩ : ∃ d, d = L - k := ⟨_, rfl⟩
  rw [← hd] at s14 r14
  rw [← hd]
  have HDL := hide hd
  have hd64 : d ≤ 64 := by omega
  have HR14 := hide r14
  have HN14 := hide m14
  have HA := hide (show A = none → L = 0 by
    intro h
    obtain ⟨A', c', hv, _, _, h3⟩ := own_form hown
    injection hv with e1 e2 e3
    exact (h3 (e1.symm.trans h)).1)
  clear hb hp hown hne hr hbl ho r14 m14 hd
  have hkc : (k : Int) ≤ (c : Int) := by omega
  have hk0 : (0 : Int) ≤ (k : Int) := by omega
  have hcases : (¬ 0 < n) ∨ (0 < n ∧ ((L : Int) == 0) = false) ∨ (0 < n ∧ ((L : Int) == 0) = true ∧ ¬ 0 < s) := by
    by_cases h0 : 0 < n
    · by_cases h1 : L = 0
      · exact .inr (.inr ⟨h0, by rw [beq_iff_eq]; omega, by omega⟩)
      · exact .inr (.inl ⟨h0, by rw [beq_eq_false_iff_ne]; omega⟩)
    · exact .inl h0
  clear hcase
  rcases hcases with h0 | ⟨h0, h1⟩ | ⟨h0, h1, h2⟩ <;> rcases hk with ⟨rfl, hlt⟩ | ⟨rfl, hle⟩
  all_goals (try (exfalso; omega))
  all_goals (try (exfalso; simp at h1; omega))
  all_goals
    go_enter Try.func13, Try.ntmps13
    go_wp2_with fail
    refine HE.out.mono ?_
    rintro e w' ⟨rfl, rfl⟩
    go_wp2_with fail
    refine (sclone_any A k c w.heap.size (bytesV (bs.take k)) w (by rw [← bytesV_take]; exact (Reads.of_own HOWN.out).take hkL) (bytesV_one _) (Nat.le_refl _) (by omega) (fun h => by have := HA.out h; omega)).mono ?_
    rintro e w1 ⟨A2, c2, rfl, ho2, hx2⟩
    replace k2 := hx2.cell k2
    clear k0 k1
    go_wp2_with fail
    refine (sclone_any A14 _ _ w.heap.size (bytesV (bs.drop k)) w1 (by rw [← bytesV_drop]; exact hx2.reads HR14.out (Nat.le_refl _)) (bytesV_one _) hx2.size (by omega) (fun h => by have := HA.out (HN14.out h); have := HDL.out; omega)).mono ?_
    rintro e w2 ⟨A3, c3, rfl, ho3, hx3⟩
    have hb2 := HO.out.ext (hx2.trans hx3)
    replace k2 : w2.cell? ⟨g, 2, none⟩ = some (.slice A _ c) := hb2.cell 2
    have f2 := hb2.frozen 2
    go_wp2_with fail
    go_ret2
    have hgl := HO.out.lt
    have hx23 := hx2.trans hx3
    refine ⟨A2, c2, rfl, own_mono (own_far (hx3.own ho2) (p := ⟨g, 2, none⟩) (fun e => by have := (ho2.lt g e).1; omega) _) hbase, by rw [List.length_drop, HBL.out, HDL.out], A3, c3, hb2.set_ 2 _, own_mono (own_far ho3 (p := ⟨g, 2, none⟩) (fun e => by have := (ho3.lt g e).1; have := hx2.size; omega) _) (Nat.le_trans hbase hx2.size), ⟨hx23.os, hx23.tape, hx23.output, by have := hx23.size; simpa using this, fun j hj hjg _ => ?_⟩, .inr (fun j hj => by have := (ho3.lt j hj).1; have := hx2.size; omega)⟩
    rw [Below.heap_setCell _ _ _ _ (by show j ≠ g; exact hjg)]
    exact hx23.block j hj
end Go.Proofs.Ytoicpnpahjmegaa
