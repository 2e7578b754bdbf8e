/- The contract of bytes.Replace at one byte for one byte. -/
import Derived.Test.YtjmonkacijncbaaGreatDoorTlRepP
import Derived.Deep.RegionHeld3
namespace Go.Proofs.YtjmonkacijncbaaGreatDoor
open Go.RowKit
set_option linter.unusedVariables false

def RepRel (w : World) (x y : UInt8) (b : Bs) (g n N : Nat) (v11 v12 v49 : Value) (wr : World) : Prop :=
  ∃ i p : Nat, i ≤ N ∧ v49 = .int .i64 (i : Int) ∧ v11 = .int .i64 (p : Int) ∧ v12 = .int .i64 (p : Int) ∧ p ≤ n ∧ (b.take p).count x = i ∧ RowP w g n (replB x y (b.take p)) wr
set_option maxHeartbeats 8000000 in
set_option maxRecDepth 100000 in
theorem replace_one (x y : UInt8) (b : Bs) (A : Option Addr) (n c B g1 c1 g2 c2 : Nat) (w : World) (hr : Reads w B 1 A n (bytesV b)) (hB : B ≤ w.heap.size) (hnc : n ≤ c) (hn : n ≤ 1000000) (hA : A = none → c = 0)
    (hx : w.cell? ⟨g1, 0, none⟩ = some (.int .u8 (x.toNat : Int))) (hy : Reads w w.heap.size 1 (some ⟨g2, 0, none⟩) 1 (bytesV [y])) (hc1 : 1 ≤ c1) (hc2 : 1 ≤ c2) :
    Calls Tryz.prog 68 #[.slice A n c, .slice (some ⟨g1, 0, none⟩) 1 c1, .slice (some ⟨g2, 0, none⟩) 1 c2, .int .i64 (-1)] w (BytesOut w (replB x y b)) := by
  obtain ⟨i0, hi0, hz0, hz1, hz2⟩ := info_parts byte_infoC
  have hl := bytes_len hr
  have HCN := hide (count_oneb x b A n c B g1 c1 w hr hA hx)
  have HR := hide hr
  have HLN := hide hl
  have HY := hide hy
  have HX := hide hx
  have HA := hide hA
  obtain ⟨N, hN⟩ : ∃ N, b.count x = N := ⟨_, rfl⟩
  rw [hN] at HCN
  have HN := hide hN
  have hNn : N ≤ n := by rw [← hN, ← hl]; exact List.count_le_length
  clear hr hl hy hx hA hN
  go_enter Tryz.func68, Tryz.ntmps68
  go_wp2_with fail
  refine HCN.out.mono ?_
  rintro e w1 ⟨rfl, rfl⟩
  by_cases h0 : N = 0
  · subst h0
    have HNO := hide (replB_none x y b (List.count_eq_zero.1 HN.out))
    go_wp2_with (at_builtin; refine wpList_append_any _ rfl (.const (.slice none 0 0)) (.tmp 24) 22 rfl w.heap.size 5 i0 _ 1 1 Tryz.underlying22 hi0 hz0 hz1 hz2 rfl (by omega) (.slice none 0 0) 0 [] rfl (World.ownsRow_nil _ _ _ _) B A n c (bytesV b) rfl HR.out (bytesV_one b) (by simp only [maxLen]; omega) (by omega) (Nat.le_refl _) ?_; intro A4 c4 w4 ho4 hg4 ha4)
    rw [Nat.zero_add, List.nil_append] at ho4
    have HO4 := hide ho4
    have HX4 := hide ((Ext.refl w).grown hg4 (fun k hk => by cases hk))
    clear ho4 hg4 ha4
    go_ret
    rw [HNO.out]
    exact ⟨A4, n, c4, by simp, HLN.out, HO4.out, HX4.out⟩
  · have t1 : ((N : Int) == 0) = false := beq_eq_false_iff_ne.2 (by omega)
    obtain ⟨W0, hmk, hown, hgr⟩ := run_makeSlice_full (P := Tryz.prog) (w := w) w.heap.size 22 5 i0 (.int .u8 0) 1 Tryz.underlying22 hi0 hz0 hz1 .i64 .i64 n (by omega) (by rw [hz2]; omega) (by simp only [maxLen]; omega) (Nat.le_refl _)
    have HRW := hide (RowP.made (w0 := w) (Ext.refl w) hown hgr)
    have hapos : A ≠ none := fun e => by
      have := HA.out e
      omega
    clear hown hgr
    go_wp2_with fail
    clear hmk
    go_loopw [11, 12, 49] (RepRel w x y b w.heap.size n N) (fun _ _ v _ => N - (intOf v).toNat)
    case atStart => exact ⟨0, 0, Nat.zero_le _, rfl, rfl, rfl, Nat.zero_le _, rfl, HRW.out⟩
    case round =>
      obtain ⟨i, p, hi, rfl, rfl, rfl, hp, hcnt, hrow⟩ := hrel
      have HCT := hide hcnt
      have HROW := hide hrow
      clear hcnt hrow
      by_cases hlt : i < N
      · have hmem : x ∈ b.drop p := by
          have h1 : b.count x = (b.take p).count x + (b.drop p).count x := by rw [← List.count_append, List.take_append_drop]
          exact List.count_pos_iff.1 (by have := HN.out; have := HCT.out; omega)
        obtain ⟨q, hq0, hq1, hq2⟩ := index_of x (b.drop p) hmem
        obtain ⟨hpq, hst, hct⟩ := rep_step x y b p q hq1 hq2
        rw [HLN.out] at hpq
        have HST := hide hst
        have HCT2 := hide hct
        obtain ⟨j, hj⟩ : ∃ j, p + q = j := ⟨_, rfl⟩
        have HJ := hide hj
        have hji : (p : Int) + (q : Int) = (j : Int) := by omega
        have hjn : j < n := by omega
        have hpj : p ≤ j := by omega
        have hxr := HROW.out.1
        have hrb := hxr.reads HR.out hB
        obtain ⟨A1, hrun1, hr1, hA1⟩ := cut_from Tryz.underlying22 hi0 hz1 hrb p c (by omega) hnc .i64
        obtain ⟨A2, hrun2, hr2⟩ := cut_mid Tryz.underlying22 hi0 hz1 hrb p j c hpj (by omega) hnc .i64 .i64
        rw [bytesV_drop] at hr1
        rw [bytesV_drop, bytesV_take] at hr2
        obtain ⟨ad, rfl, -, -⟩ := hr1.2 (by omega)
        have hix := index_oneb x (b.drop p) ad (n - p) (c - p) B g1 c1 wr hr1 (hxr.cell HX.out)
        rw [hq0] at hix
        have HIX := hide hix
        have hqj : j - p = q := by omega
        rw [hqj] at hrun2 hr2
        have hrun3 := cut_row Tryz.underlying22 hi0 hz1 w.heap.size p n (by omega) .i64
        have hrun4 := cut_row Tryz.underlying22 hi0 hz1 w.heap.size j n hjn .i64
        have HR2 := hide hr2
        have hlr : (replB x y (b.take p)).length = p := by rw [replB_len, List.length_take, HLN.out]; omega
        have HLR := hide hlr
        have hlq : ((b.drop p).take q).length = q := by rw [List.length_take, List.length_drop, HLN.out]; omega
        have HCP1 := hide (fun ty => (HROW.out.ext (Ext.refl wr).drew).copy_any ((b.drop p).take q) (by rw [hlr, hlq]; omega) B A2 q (c - p) hr2.drew p (n - p) (n - p) hlr.symm (by omega) ty)
        have HCP0 := hide (fun ty => HROW.out.copy_any ((b.drop p).take q) (by rw [hlr, hlq]; omega) B A2 q (c - p) hr2 p (n - p) (n - p) hlr.symm (by omega) ty)
        have HLQ := hide hlq
        have hw1 : IntKind.i64.wrap (j : Int) = (j : Int) := by rw [IntKind.wrap_i64]; omega
        have hw2 : IntKind.i64.wrap ((p : Int) + (q : Int)) = (j : Int) := by rw [IntKind.wrap_i64]; omega
        clear hmem hq0 hq1 hq2 hst hct hxr hrb hr1 hA1 hix hr2 hlr hlq hj hqj
        go_wp2_with fail
        refine HIX.out.mono ?_
        rintro e w2 ⟨rfl, rfl⟩
        clear hrun1
        go_upto_region 15 with fail
        obtain ⟨w8, hcp, hrow8⟩ := HCP0.out 3
        obtain ⟨w9, hcp', hrow9⟩ := HCP1.out 3
        have hlj : (replB x y (b.take p) ++ (b.drop p).take q).length = j := by rw [List.length_append, HLR.out, HLQ.out]; omega
        have HCY := hide (fun (W : World) (h : RowP w w.heap.size n (replB x y (b.take p) ++ (b.drop p).take q) W) => h.copy_any [y] (by rw [hlj]; simp; omega) w.heap.size (some ⟨g2, 0, none⟩) 1 c2 (h.1.reads HY.out (Nat.le_refl _)) j (n - j) (n - j) hlj.symm (by omega) 3)
        obtain ⟨w10, hcp2, hrow10⟩ := HCY.out w9 hrow9
        rw [← HST.out] at hrow10
        have HR10 := hide hrow10
        clear hrow8 hrow9 hrow10 hlj
        go_region_held3 (fun w' => True) (trivial)
          (first
            | (refine step_copy_eqN (by rfl) (.tmp 61) (.tmp 65) 22 22 (by rfl) (.slice (some ⟨w.heap.size, p, none⟩) (n - p) (n - p)) (.slice A2 q (c - p)) (by rfl) (by rfl) hcp ?_)
            | (refine step_copy_eqN (by rfl) (.tmp 61) (.tmp 65) 22 22 (by rfl) (.slice (some ⟨w.heap.size, p, none⟩) (n - p) (n - p)) (.slice A2 q (c - p)) (by rfl) (by rfl) hcp' ?_)
            | fail)
        clear hcp hcp' hrun2 hrun3
        go_wp2_with fail
        go_roundw
        case rel => exact ⟨i + 1, j + 1, by omega, by go_num, by go_num, by go_num, by omega, by rw [← HJ.out, HCT2.out, HCT.out], by rw [← HJ.out]; exact HR10.out⟩
        case measure => simp [intOf]; omega
      · have hiN : i = N := by omega
        subst hiN
        have hxr := HROW.out.1
        have hrb := hxr.reads HR.out hB
        have hrt := rep_tail x y b p (by rw [HCT.out, HN.out])
        have HRT := hide hrt
        have hlr : (replB x y (b.take p)).length = p := by rw [replB_len, List.length_take, HLN.out]; omega
        have hld : (b.drop p).length = n - p := by rw [List.length_drop, HLN.out]
        have hlf : (replB x y b).length = n := by rw [replB_len]; exact HLN.out
        have HLF := hide hlf
        obtain ⟨A1, hrun1, hr1, hA1⟩ := cut_from Tryz.underlying22 hi0 hz1 hrb p c hp hnc .i64
        rw [bytesV_drop] at hr1
        have hrun2 := cut_whole Tryz.underlying22 hi0 hz1 w.heap.size n .i64 .i64
        by_cases hpn : p < n
        · obtain ⟨k, hk⟩ : ∃ k, n - p = k := ⟨_, rfl⟩
          have hrun3 := cut_row Tryz.underlying22 hi0 hz1 w.heap.size p n hpn .i64
          rw [hk] at hrun1 hrun3 hr1 hld
          have HCP1 := (HROW.out.ext (Ext.refl wr).drew).copy_any (b.drop p) (by rw [hlr, hld]; omega) B A1 k (c - p) hr1.drew p k k hlr.symm (Nat.le_refl _) 3
          have HCP0 := HROW.out.copy_any (b.drop p) (by rw [hlr, hld]; omega) B A1 k (c - p) hr1 p k k hlr.symm (Nat.le_refl _) 3
          rw [hrt] at HCP0 HCP1
          obtain ⟨w8, hcp, hrow8⟩ := HCP0
          obtain ⟨w9, hcp', hrow9⟩ := HCP1
          have HR8 := hide hrow8
          have HR9 := hide hrow9
          have hw2 : IntKind.i64.wrap ((p : Int) + (k : Int)) = (n : Int) := by rw [IntKind.wrap_i64]; omega
          clear hrow8 hrow9 hxr hrb hrt hlr hld hlf hr1 hA1 hk
          go_upto_region 28 with fail
          go_region_held3 (fun w' => True) (trivial)
            (first
              | (refine step_copy_eqN (by rfl) (.tmp 123) (.tmp 126) 22 22 (by rfl) (.slice (some ⟨w.heap.size, p, none⟩) k k) (.slice A1 k (c - p)) (by rfl) (by rfl) hcp ?_)
              | (refine step_copy_eqN (by rfl) (.tmp 123) (.tmp 126) 22 22 (by rfl) (.slice (some ⟨w.heap.size, p, none⟩) k k) (.slice A1 k (c - p)) (by rfl) (by rfl) hcp' ?_)
              | fail)
          clear hcp hcp' hrun1 hrun3 hw2
          go_wp2_with fail
          go_ret
          first
            | exact ⟨_, n, n, rfl, HLF.out, HR8.out.own HLF.out (by simp only [maxLen]; omega), HR8.out.1⟩
            | exact ⟨_, n, n, rfl, HLF.out, HR9.out.own HLF.out (by simp only [maxLen]; omega), HR9.out.1⟩
        · have hpn' : p = n := by omega
          subst hpn'
          have hrun3 := cut_end Tryz.underlying22 hi0 hz1 w.heap.size p .i64
          rw [Nat.sub_self] at hrun1 hr1 hld
          have hrow := HROW.out
          have hd0 : b.drop p = [] := List.eq_nil_of_length_eq_zero hld
          rw [hd0, List.append_nil] at hrt
          rw [hrt] at hrow
          have hcp := hrow.copy0 A1 0 (c - p) 0 0 (Nat.zero_le _) 3
          have hcp' := (hrow.ext (Ext.refl wr).drew).copy0 A1 0 (c - p) 0 0 (Nat.zero_le _) 3
          have HR8 := hide hrow
          have HR9 := hide (hrow.ext (Ext.refl wr).drew)
          clear hrow hxr hrb hrt hlr hld hlf hr1 hA1 hd0
          go_upto_region 28 with fail
          go_region_held3 (fun w' => True) (trivial)
            (first
              | (refine step_copy_eqN (by rfl) (.tmp 123) (.tmp 126) 22 22 (by rfl) (.slice (some ⟨w.heap.size, 0, none⟩) 0 0) (.slice A1 0 (c - p)) (by rfl) (by rfl) hcp ?_)
              | (refine step_copy_eqN (by rfl) (.tmp 123) (.tmp 126) 22 22 (by rfl) (.slice (some ⟨w.heap.size, 0, none⟩) 0 0) (.slice A1 0 (c - p)) (by rfl) (by rfl) hcp' ?_)
              | fail)
          clear hcp hcp' hrun1 hrun3
          go_wp2_with fail
          go_ret
          first
            | exact ⟨_, p, p, rfl, HLF.out, HR8.out.own HLF.out (by simp only [maxLen]; omega), HR8.out.1⟩
            | exact ⟨_, p, p, rfl, HLF.out, HR9.out.own HLF.out (by simp only [maxLen]; omega), HR9.out.1⟩
end Go.Proofs.YtjmonkacijncbaaGreatDoor
