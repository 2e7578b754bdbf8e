/- The law TopSleepers: its walk, from a kernel that has started. -/
import Derived.Test.YthmojneobkaolaaGreatDoorTpAsk3
import Derived.Test.YthmojneobkaolaaGreatDoorDrawH
import Derived.Test.YthmojneobkaolaaGreatDoorTpCatch
import Derived.Test.YthmojneobkaolaaGreatDoorTpSmall
namespace Go.Proofs.YthmojneobkaolaaGreatDoor
open Go.RowKit
set_option linter.unusedVariables false

/-- Some wake. -/
def KSt.woken (s : KSt) (ids : List Nat) : KSt := ids.foldl (fun s p => s.slept p false) s
theorem KSt.woken_snoc (s : KSt) (ids : List Nat) (p : Nat) : s.woken (ids ++ [p]) = (s.woken ids).slept p false := by
  unfold KSt.woken
  rw [List.foldl_append]
  rfl
theorem KSt.woken_rest (s : KSt) (ids : List Nat) : (s.woken ids).n = s.n ∧ (s.woken ids).now = s.now ∧ (s.woken ids).ls = s.ls ∧ (s.woken ids).sg = s.sg := by
  unfold KSt.woken
  induction ids generalizing s with
  | nil => exact ⟨rfl, rfl, rfl, rfl⟩
  | cons p ids ih => exact ih (s.slept p false)
theorem KSt.woken_zz (s : KSt) (ids : List Nat) (p : Nat) : (s.woken ids).zz p = if p ∈ ids then false else s.zz p := by
  unfold KSt.woken
  induction ids generalizing s with
  | nil => rfl
  | cons q ids ih =>
    rw [List.foldl_cons, ih (s.slept q false)]
    by_cases h1 : p ∈ ids
    · rw [if_pos h1, if_pos (List.mem_cons_of_mem _ h1)]
    · rw [if_neg h1]
      by_cases h2 : p = q
      · subst h2
        rw [if_pos (List.mem_cons_self ..)]
        exact updN_same _ _ _
      · rw [if_neg (by simp [h1, h2])]
        exact updN_other _ _ _ _ h2
/-- The kernel whose clock has gone on, and its wheel's has not. -/
structure TkAt (b : Nat) (w : World) (H : Hn) (s : KSt) (kn : Nat) : Prop where
  ker : ∃ T, KerM w H kn T ∧ T 1 = tkL 1 (.slice none 0 0) H.cw ∧ w.ownsRow b 3 1 H.cw 1 [.int .i64 1] ∧ ∀ p, 1 ≤ p → p ≤ s.n → TaskP (T p) (s.sg p).1 (s.sg p).2 (s.zz p)
  proc : ProcAt w H.hp s.n
  opn : OpenAt w H.ho
  space : SpaceAt b w H.hm H.bm s.n
  run : ∃ m, 0 < m ∧ m ≤ s.n ∧ RunN b w H.hr m
  wheel : WheelAt b w H.hw s.now s.ls
  ge : b ≤ H.hk ∧ b ≤ H.hp ∧ b ≤ H.ho
  bw : b ≤ w.heap.size
section
variable {b : Nat} {w w' : World} {H : Hn} {s : KSt}
theorem KAt.ticked (h : KAt b w H s) (n : Nat) : TkAt b (w.setCell ⟨H.hk, 654, none⟩ (.int .u32 (n : Int))) H s n ∧ KeepL b [68] [] [] w (w.setCell ⟨H.hk, 654, none⟩ (.int .u32 (n : Int))) := by
  obtain ⟨T, hk', h1', hcw, ht⟩ := h.ker
  obtain ⟨m, hm0, hm1, hr⟩ := h.run
  have hk := hk'.kset h.ge.1 654 (.int .u32 (n : Int))
  exact ⟨⟨⟨T, hk'.tick n, h1', hk.own hcw (by decide) (by simp), ht⟩, h.proc.keep hk (by decide) rfl, h.opn.keep hk (by decide) rfl, h.space.keep hk (by decide) (by simp), ⟨m, hm0, hm1, hr.keep hk (by decide) (by decide) rfl⟩, h.wheel.keep hk (by decide) (by decide) rfl, h.ge, Nat.le_trans h.bw hk.size⟩, hk⟩
theorem TkAt.ext {kn : Nat} (h : TkAt b w H s kn) (hx : Ext w w') : TkAt b w' H s kn := by
  obtain ⟨T, hk, h1, hcw, ht⟩ := h.ker
  obtain ⟨m, hm0, hm1, hr⟩ := h.run
  exact ⟨⟨T, hk.ext hx, h1, hx.own hcw, ht⟩, h.proc.extA hx, h.opn.extA hx, h.space.ext hx, ⟨m, hm0, hm1, hr.extA hx⟩, h.wheel.ext hx, h.ge, Nat.le_trans h.bw hx.size⟩
theorem TkAt.hd {kn : Nat} (h : TkAt b w H s kn) (j : Nat) (hj : j < 8) {v : Value} (hv : (hdV H)[j]? = some v) : w.cell? ⟨H.hk, j, none⟩ = some v := by
  obtain ⟨T, hk', h1', hcw, ht⟩ := h.ker
  exact hk'.hd j hj hv
theorem TkAt.clock {kn : Nat} (h : TkAt b w H s kn) : w.cell? ⟨H.hk, 654, none⟩ = some (.int .u32 (kn : Int)) := by
  obtain ⟨T, hk', h1', hcw, ht⟩ := h.ker
  exact hk'.clock
theorem TkAt.stepped {kn : Nat} (h : TkAt b w H s kn) {ls : List (Nat × Nat)} (hk : KeepL b [108, tmT] [] [] w w') (hw : WheelAt b w' H.hw kn ls) : KAt b w' H { s with now := kn, ls := ls } := by
  obtain ⟨T, hk', h1', hcw, ht⟩ := h.ker
  obtain ⟨m, hm0, hm1, hr⟩ := h.run
  exact ⟨⟨T, hk'.keep hk (by decide) (by simp), h1', hk.own hcw (by decide) (by simp), ht⟩, h.proc.keep hk (by decide) rfl, h.opn.keep hk (by decide) rfl, h.space.keep hk (by decide) (by simp), ⟨m, hm0, hm1, hr.keep hk (by decide) (by decide) rfl⟩, hw, h.ge, Nat.le_trans h.bw hk.size⟩
/-- While those wake whose time has come. -/
def TkRel (b : Nat) (H : Hn) (s : KSt) (A : Option Addr) (k c : Nat) (l : List (Nat × Nat)) (B : Nat) (v : Value) (w0 wr : World) : Prop :=
  ∃ i : Nat, v = .int .i64 (i : Int) ∧ i ≤ k ∧ KAt b wr H (s.woken ((l.take i).map (·.2))) ∧ wr.ownsRow B 3 1 (.slice A k c) k (idsV l) ∧ KKeep b H w0 wr
def TcRel (b : Nat) (H : Hn) (s : KSt) (v : Value) (w0 wr : World) : Prop :=
  ∃ i : Nat, v = .int .i64 (i : Int) ∧ i ≤ 1 ∧ KAt b wr H s ∧ KKeep b H w0 wr
theorem idsV_len (l : List (Nat × Nat)) : (idsV l).length = l.length := by unfold idsV; rw [intsV_length, List.length_map]
set_option maxHeartbeats 8000000 in
set_option maxRecDepth 100000 in
theorem ktick_ok (h : KAt b w H s) (hn : s.n ≤ 16) (hT : Timely s.ls) (hl : s.ls.length ≤ 20) (hid : ∀ q ∈ s.ls, 2 ≤ q.2 ∧ q.2 ≤ s.n) (hnow : s.now ≤ 1000) :
    Calls Tryz.prog 8 #[pV H.hk] w fun e w' => e = .returned (.tuple #[]) ∧ (∃ k, (∀ p ∈ s.ls.take k, p.1 ≤ s.now + 1) ∧ (∀ p ∈ s.ls.drop k, s.now + 1 < p.1) ∧
      KAt b w' H (({ s with now := s.now + 1, ls := s.ls.drop k } : KSt).woken ((s.ls.take k).map (·.2)))) ∧ KKeep b H w w' := by
  have c654 := h.clock
  have f654 := h.frozen 654
  have e1 : IntKind.u32.wrap ((s.now : Int) + 1) = ((s.now + 1 : Nat) : Int) := by
    unfold IntKind.wrap
    simp [IntKind.signed, IntKind.bits]
    omega
  have htk := h.ticked (s.now + 1)
  rw [show ((s.now + 1 : Nat) : Int) = (s.now : Int) + 1 from by omega] at htk
  have HTK := hide htk
  clear h htk
  go_enter Tryz.func8, Tryz.ntmps8
  go_upto_region 1 with fail
  generalize w.setCell _ _ = W at *
  have hxd : Ext W W.drew := (Ext.refl W).drew
  have htd := HTK.out.1.ext hxd
  have HTD := hide htd
  have HKD := hide ((KeepL.wide HTK.out.2 (Nat.le_refl _) (by simp) (by simp) (by simp) : KKeep b H w W).trans (KeepL.of hxd _ _ _ _))
  have HST := hide (wstep_ok htd.wheel hT hl htd.bw (s.now + 1) (by omega) (by omega))
  rw [show ((s.now + 1 : Nat) : Int) = (s.now : Int) + 1 from by omega] at HST
  have c5 : W.drew.cell? ⟨H.hk, 5, none⟩ = some (pV H.hw) := htd.hd 5 (by omega) rfl
  have c654' : W.drew.cell? ⟨H.hk, 654, none⟩ = some (.int .u32 ((s.now : Int) + 1)) := by
    have := htd.clock
    rwa [show ((s.now + 1 : Nat) : Int) = (s.now : Int) + 1 from by omega] at this
  clear HTK htd hxd c654 f654 e1
  go_region_held3 (fun w' => w'.cell? ⟨H.hk, 5, none⟩ = some (pV H.hw) ∧ w'.cell? ⟨H.hk, 654, none⟩ = some (.int .u32 ((s.now : Int) + 1))) (first | exact ⟨c5, c654'⟩ | exact k9 | fail)
    (first | (go_at_call 20; (with_reducible refine HST.out.mono ?_); rintro e w9 ⟨A, c, k, rfl, hk0, hlo, hhi, hrow, hwh, hk9⟩; have hs9 := HTD.out.stepped hk9 hwh; have k9 : w9.cell? ⟨H.hk, 5, none⟩ = some (pV H.hw) ∧ w9.cell? ⟨H.hk, 654, none⟩ = some (.int .u32 ((s.now : Int) + 1)) := ⟨hs9.hd 5 (by omega) rfl, (show w9.cell? ⟨H.hk, 654, none⟩ = some (.int .u32 ((s.now + 1 : Nat) : Int)) from hs9.clock).trans (by rw [show ((s.now + 1 : Nat) : Int) = (s.now : Int) + 1 from by omega])⟩) | fail)
  all_goals
    have HS9 := hide hs9
    have HLO := hide hlo
    have HHI := hide hhi
    have HROW := hide hrow
    have HK0 := hide hk0
    have HK9 := hide (HKD.out.trans (hk9.wide (Nat.le_refl _) (by simp) (by simp) (by simp)))
    have HBW := hide HTD.out.bw
    obtain ⟨B, hB⟩ : ∃ B, W.drew.heap.size = B := ⟨_, rfl⟩
    rw [hB] at HROW
    clear hs9 hlo hhi hrow hk9 hwh k9 c5 c654' HST HTD HKD hB hk0
    obtain ⟨sn, hsn⟩ : ∃ sn : KSt, sn = { s with now := s.now + 1, ls := s.ls.drop k } := ⟨_, rfl⟩
    rw [← hsn] at HS9
    have hnn : sn.n = s.n := by rw [hsn]
    have HSN := hide hsn
    clear hsn
    go_upto_region 3 with fail
    go_loopw [28] (TkRel b H sn A k c (s.ls.take k) B · w9) (fun v _ => k - (intOf v).toNat)
    case atStart => exact ⟨0, rfl, Nat.zero_le _, HS9.out, HROW.out, KeepL.refl _ _ _ _ _⟩
    case round =>
      obtain ⟨i, rfl, hi, hki, hro, hke⟩ := hrel
      have HKI := hide hki
      have HRO := hide hro
      have HKE := hide hke
      obtain ⟨e1, e2, e3, e4⟩ := sn.woken_rest (((s.ls.take k).take i).map (·.2))
      have HE1 := hide e1
      clear hki hro hke e1 e2 e3 e4
      by_cases hlt : i < k
      · have hlt' : (i : Int) < (k : Int) := by omega
        obtain ⟨ga, hA, -, -, -, -⟩ := own_addr HRO.out (by omega)
        subst hA
        have hkl : k ≤ s.ls.length := HK0.out
        obtain ⟨q, hq⟩ : ∃ q, (s.ls.take k)[i]? = some q := ⟨_, List.getElem?_eq_getElem (by rw [List.length_take]; omega)⟩
        have k0 : wr.cell? ⟨ga, i, none⟩ = some (.int .i64 (q.2 : Int)) := by
          have h := (HRO.out.cells (g := ga) rfl) i (.int .i64 (q.2 : Int)) (by
            unfold idsV intsV
            rw [List.map_map, List.getElem?_map, hq]
            rfl)
          rw [add_lit, Nat.zero_add] at h
          exact h
        have hqm : q ∈ s.ls := List.mem_of_mem_take (List.mem_of_getElem? hq)
        have hq1 := hid q hqm
        have HWK := hide (kwake_ok HKI.out q.2 hq1.1 (by rw [HE1.out, hnn]; exact hq1.2) (by rw [HE1.out, hnn]; exact hn))
        have HQ := hide hq
        have HLT := hide hlt
        clear hq hqm
        go_wp2_with fail
        refine HWK.out.mono ?_
        rintro e w3 ⟨rfl, hk3, hp3⟩
        rw [← KSt.woken_snoc] at hk3
        have HK3 := hide hk3
        have HP3 := hide (HKE.out.trans hp3)
        have HR3 := hide (hp3.own HRO.out (by decide) (by simp))
        have HTS := hide (show ((s.ls.take k).take i).map (·.2) ++ [q.2] = ((s.ls.take k).take (i + 1)).map (·.2) by
          have hl := (List.getElem?_eq_some_iff.1 HQ.out).1
          rw [List.take_succ_eq_append_getElem hl, List.map_append, (List.getElem?_eq_some_iff.1 HQ.out).2]
          rfl)
        clear hk3 hp3 HWK HKI HKE HRO k0
        go_wp2_with fail
        go_roundw
        case rel =>
          refine ⟨i + 1, by first | rfl | go_num, by omega, ?_, HR3.out, HP3.out⟩
          rw [← HTS.out]
          exact HK3.out
        case measure => simp [intOf]; omega
      · obtain rfl : i = k := by omega
        have hki := HKI.out
        rw [List.take_take, Nat.min_self] at hki
        replace HE1 := HE1.out
        rw [List.take_take, Nat.min_self] at HE1
        replace HE1 := hide HE1
        have HKJ := hide hki
        have c0 : wr.cell? ⟨H.hk, 0, none⟩ = some (.int .i64 1) := hki.hd 0 (by omega) rfl
        clear hki HKI HRO
        go_upto_region 8 with fail
        clear c0
        go_loopw [40] (TcRel b H (sn.woken ((s.ls.take i).map (·.2))) · wr) (fun v _ => 1 - (intOf v).toNat)
        case atStart => exact ⟨0, rfl, by omega, HKJ.out, KeepL.refl _ _ _ _ _⟩
        case round =>
          obtain ⟨j, rfl, hj, hkj, hkej⟩ := hrel
          have HKJ2 := hide hkj
          have HKE2 := hide hkej
          by_cases hj0 : j < 1
          · obtain rfl : j = 0 := by omega
            obtain ⟨m, hm0, hm1, hr⟩ := hkj.run
            have HM1 := hide hm1
            have HRT := hide (rtick_n hr hm0 (by rw [HE1.out, hnn] at hm1; omega))
            have c4 := hkj.hd 4 (by omega) (v := pV H.hr) rfl
            clear hkj hkej hr hm1
            go_wp2_with fail
            refine HRT.out.mono ?_
            rintro e w5 ⟨⟨z, rfl⟩, hr5, hk5⟩
            have HKJ3 := hide (HKJ2.out.runned hk5 hm0 HM1.out hr5)
            have HKE3 := hide (HKE2.out.trans (hk5.wide (Nat.le_refl _) (by simp) (by simp) (by simp)))
            clear hr5 hk5 HRT c4 HKJ2 HKE2
            go_wp2_with fail
            go_roundw
            case rel => exact ⟨1, by first | rfl | go_num, by omega, HKJ3.out, HKE3.out⟩
            case measure => simp [intOf]
          · obtain rfl : j = 1 := by omega
            have HF := HKJ2.out
            rw [HSN.out] at HF
            have HKF := hide HF
            clear hkj hkej HKJ2 HF
            go_wp2_with fail
            (first | go_end0 | ((try simp only [Exit.inBlock, Exit.then]); refine bodyPost_ret (results_none rfl _ _ _) rfl ?_))
            exact ⟨rfl, ⟨i, HLO.out, HHI.out, HKF.out⟩, (HK9.out.trans HKE.out).trans HKE2.out⟩
end
end Go.Proofs.YthmojneobkaolaaGreatDoor

namespace Go.Proofs.YthmojneobkaolaaGreatDoor
open Go.RowKit
set_option linter.unusedVariables false

section
variable {b : Nat} {w w' : World} {H : Hn} {s : KSt}
set_option maxHeartbeats 8000000 in
set_option maxRecDepth 100000 in
theorem ksignals_ok (h : KAt b w H s) (p : Nat) (h1 : 2 ≤ p) (h2 : p ≤ s.n) (hn : s.n ≤ 16) (pd x : Int) :
    Calls Tryz.prog 110 #[pV H.hk, .int .i64 (p : Int), .agg (sigA pd x), .int .i64 0] w fun e w' => e = .returned (ansV 0 0 0) ∧ KAt b w' H (s.sig p (pd, x)) ∧ KKeep b H w w' := by
  have hx0 := (Ext.refl w).alloc (.cells (sigA pd x) 56)
  have hs0 : (w.alloc (.cells (sigA pd x) 56)).heap.size = w.heap.size + 1 := by simp
  have hxa := hx0.alloc (.cells (ansL 0 0 0).toArray 34)
  have hb0 := (Blk.new w 56 (sigA pd x)).ext ((Ext.refl _).alloc (.cells (ansL 0 0 0).toArray 34))
  have hba := Blk.new (w.alloc (.cells (sigA pd x) 56)) 34 (ansL 0 0 0).toArray
  rw [hs0] at hba
  have HB0 := hide hb0
  have HBA := hide hba
  have HX := hide hxa
  have HH := hide (h.ext hxa)
  have HLT := hide h.lt
  have hbw := h.bw
  simp only [ansL] at HB0 HBA HX HH
  clear h hb0 hba hx0 hxa hs0
  go_enter Tryz.func110, Tryz.ntmps110
  go_upto_region 1 with fail
  obtain ⟨g, hg⟩ : ∃ g, w.heap.size = g := ⟨_, rfl⟩
  have hgw : w.heap.size ≤ g + 1 := by omega
  have hlt := HLT.out
  rw [hg] at HB0 HBA hlt ⊢
  clear hg HLT
  generalize (w.alloc _).alloc _ = W at *
  go_upto_region 2 with fail
  have HLD := hide (sig_range HB0.out.drew)
  have HSZ := hide (sig_size pd x)
  have hxd : Ext W W.drew := (Ext.refl W).drew
  have HT := hide ((HH.out.ext hxd).sigT p (by omega))
  obtain ⟨hk1, hk2⟩ := (HH.out.ext hxd).sigSet p h1 (by omega) pd x
  have HK1 := hide hk1
  have HK2 := hide hk2
  have HB2 := hide (HBA.out.drew.farC (show g + 1 ≠ H.hk by omega) (8 + p * 38 + 19) (sigL pd x))
  have hp17 : (p : Int) < 17 := by omega
  clear hk1 hk2
  refine wp_region_any (by kernel_rfl) ?_
  try (change wpAny _ _ _ _ _ _ _ (World.drew _))
  refine take_op (i := 0) (d := some 11) (v := ?v1001) rfl (by kernel_rfl) (by kernel_rfl) (by kernel_rfl) (fun _ _ _ h => h) (fun oi ho => ?hy1001) ?rest1001
  case hy1001 => (simp only [List.getElem?_toArray, List.getElem?_cons_zero, Option.some.injEq] at ho; subst ho; refine Or.inl ⟨by rfl, fun w' => ?_⟩; go_simp; try (with_reducible rfl))
  simp only [Act.put, List.setIfInBounds_toArray, List.set_cons_zero, List.set_cons_succ]
  refine take_op (i := 1) (d := some 12) (v := ?v1002) rfl (by kernel_rfl) (by kernel_rfl) (by kernel_rfl) (fun _ _ _ h => h) (fun oi ho => ?hy1002) ?rest1002
  case hy1002 => (simp only [List.getElem?_toArray, List.getElem?_cons_succ, List.getElem?_cons_zero, Option.some.injEq] at ho; subst ho; refine Or.inl ⟨by rfl, fun w' => ?_⟩; go_simp; try (with_reducible rfl))
  simp only [Act.put, List.setIfInBounds_toArray, List.set_cons_zero, List.set_cons_succ]
  refine take_op (i := 3) (d := some 14) (v := ?v1003) rfl (by kernel_rfl) (by kernel_rfl) (by kernel_rfl) (fun _ _ _ h => h) (fun oi ho => ?hy1003) ?rest1003
  case hy1003 => (simp only [List.getElem?_toArray, List.getElem?_cons_succ, List.getElem?_cons_zero, Option.some.injEq] at ho; subst ho; refine Or.inl ⟨by rfl, fun w' => ?_⟩; go_simp; try (with_reducible rfl))
  simp only [Act.put, List.setIfInBounds_toArray, List.set_cons_zero, List.set_cons_succ]
  refine take_op (i := 4) (d := some 15) (v := ?v1004) rfl (by kernel_rfl) (by kernel_rfl) (by kernel_rfl) (fun _ _ _ h => h) (fun oi ho => ?hy1004) ?rest1004
  case hy1004 => (simp only [List.getElem?_toArray, List.getElem?_cons_succ, List.getElem?_cons_zero, Option.some.injEq] at ho; subst ho; refine Or.inl ⟨by rfl, fun w' => ?_⟩; go_simp; try (with_reducible rfl))
  simp only [Act.put, List.setIfInBounds_toArray, List.set_cons_zero, List.set_cons_succ]
  refine wpAny_ready (rs := [2]) (by kernel_rfl) (by simp) ?_
  refine cons_op (by decide) (fun o ho K hK => ?_) ?_
  simp only [List.getElem?_toArray, List.getElem?_cons_succ, List.getElem?_cons_zero, Option.some.injEq] at ho
  subst ho
  refine step_load_mid (by rfl) 56 (.tmp 6) (by rfl) g 0 (by rfl) (sigL pd x) _ HLD.out Tryz.underlying56 rfl HSZ.out ?_
  refine hK _ _ ?_
  clear hK K
  simp only [Act.put, List.setIfInBounds_toArray, List.set_cons_zero, List.set_cons_succ]
  refine take_op (i := 5) (d := some 16) (v := ?v1005) rfl (by kernel_rfl) (by kernel_rfl) (by kernel_rfl) (fun _ _ _ h => h) (fun oi ho => ?hy1005) ?rest1005
  case hy1005 => (simp only [List.getElem?_toArray, List.getElem?_cons_succ, List.getElem?_cons_zero, Option.some.injEq] at ho; subst ho; refine Or.inl ⟨by rfl, fun w' => ?_⟩; go_simp; try (with_reducible rfl))
  simp only [Act.put, List.setIfInBounds_toArray, List.set_cons_zero, List.set_cons_succ]
  refine take_op (i := 6) (d := some 17) (v := ?v1006) rfl (by kernel_rfl) (by kernel_rfl) (by kernel_rfl) (fun _ _ _ h => h) (fun oi ho => ?hy1006) ?rest1006
  case hy1006 => (simp only [List.getElem?_toArray, List.getElem?_cons_succ, List.getElem?_cons_zero, Option.some.injEq] at ho; subst ho; refine Or.inl ⟨by rfl, fun w' => ?_⟩; go_simp; try (with_reducible rfl))
  simp only [Act.put, List.setIfInBounds_toArray, List.set_cons_zero, List.set_cons_succ]
  refine wpAny_ready (rs := [7]) (by kernel_rfl) (by simp) ?_
  refine cons_op (by decide) (fun o ho K hK => ?_) ?_
  simp only [List.getElem?_toArray, List.getElem?_cons_succ, List.getElem?_cons_zero, Option.some.injEq] at ho
  subst ho
  refine step_store_mid (by rfl) 56 (.tmp 17) (.tmp 13) (by rfl) H.hk (8 + p * 38 + 19) (sigA pd x) (by rfl) (by rfl) HT.out (sig_size pd x) (sigA_one pd x) ?_
  refine hK _ _ ?_
  clear hK K
  simp only [Act.put]
  refine wpAny_done (by kernel_rfl) ?_ _
  rotate_left
  exact AllReady.nil
  exact AllReady.nil
  all_goals
    change Exit.then _ _ _ _ (W.drew.setCells H.hk (8 + p * 38 + 19) (sigL pd x))
    have HKX := hide (KeepL.of (HX.out.trans hxd) b kTs [] [H.bm])
    generalize W.drew.setCells _ _ _ = w2 at *
    have HFL := hide (fail_ok 0 w2)
    go_wp2_with fail
    refine HFL.out.mono ?_
    rintro e w3 ⟨rfl, hx3⟩
    have HB3 := hide (HB2.out.ext hx3)
    have HTA := hide (HB3.out.there_ 0 11 (by simp))
    have HK3 := hide (HK1.out.ext hx3)
    have HKK := hide ((HKX.out.trans (HK2.out.wide (Nat.le_refl _) (by simp) (by simp) (by simp))).trans (KeepL.of hx3 _ _ _ _))
    clear hx3 HFL HKX HK1 HK2 HB2 HT HLD HSZ
    go_wp2_with ((with_reducible refine wpList_store_mid rfl 34 (.tmp 8) (.tmp 19) rfl (g + 1) 0 (ansL 0 0 0).toArray rfl ?_ ?_ ?_ ?_ ?_); (exact rfl); (exact HTA.out); (exact ans_size 0 0 0); (exact ans_one 0 0 0))
    have HE1 := hide (HK3.out.answered HB3.out (Nat.le_trans hbw (by omega)) (ansL 0 0 0))
    have HE2 := hide (HKK.out.fresh hgw 0 (ansL 0 0 0))
    have HE3 := hide (HB3.out.setAll (ansL 0 0 0) rfl)
    clear HK3 HKK HB3 HTA
    change bodyPost _ _ _ _ _ (w3.setCells (g + 1) 0 (ansL 0 0 0))
    generalize w3.setCells (g + 1) 0 (ansL 0 0 0) = w4 at *
    exact ans_ret Tryz.f110 8 rfl rfl rfl HE3.out ⟨rfl, HE1.out, HE2.out⟩
end
end Go.Proofs.YthmojneobkaolaaGreatDoor

namespace Go.Proofs.YthmojneobkaolaaGreatDoor
open Go.RowKit
set_option linter.unusedVariables false

section
variable {b : Nat} {w w' : World} {H : Hn} {s : KSt}
set_option maxHeartbeats 8000000 in
set_option maxRecDepth 100000 in
/-- A signal wakes who sleeps and hears it. -/
theorem ksend_ok (h : KAt b w H s) (p : Nat) (h1 : 2 ≤ p) (h2 : p ≤ s.n) (hn : s.n ≤ 16) (hsg : s.sg p = (0, 64)) (hzz : s.zz p = true) (hl : s.ls.length ≤ 20) :
    Calls Tryz.prog 87 #[pV H.hk, .int .i64 (p : Int), .int .i64 3] w fun e w' => e = .returned (.tuple #[]) ∧ (∃ ls, KAt b w' H { (s.sig p (8, 64)).slept p false with ls := ls }) ∧ KKeep b H w w' := by
  have HLV := hide (living_ok h p (by omega) h2 hn)
  have HLD := hide (h.sigR p (by omega) h2 hn)
  rw [hsg] at HLD
  have HSZ := hide (sig_size 0 64)
  have HSD := hide (sigsend_ok 64 (by omega) (by decide) w)
  have HH := hide h
  have hp17 : (p : Int) < 17 := by omega
  clear h
  go_enter Tryz.func87, Tryz.ntmps87
  go_wp2_with fail
  refine HLV.out.mono ?_
  rintro e w' ⟨rfl, rfl⟩
  go_wp2_with ((with_reducible refine wpList_load_mid rfl 56 (.tmp 23) rfl H.hk (8 + p * 38 + 19) rfl (sigL 0 64) _ HLD.out Tryz.underlying56 rfl HSZ.out ?_))
  refine HSD.out.mono ?_
  rintro e w1 ⟨rfl, hx1⟩
  have HTH := hide ((Blk.new w1 56 (sigA 0 0)).there_ 0 (sigA 8 64).size (by rw [Nat.zero_add]; exact Nat.le_refl _))
  have HXA := hide (hx1.alloc (.cells (sigA 0 0) 56))
  have HX2 := hide (HXA.out.setCells hx1.size 0 (sigA 8 64).toList)
  have HB2 := hide ((Blk.new w1 56 (sigA 0 0)).setAll (sigA 8 64).toList rfl)
  have HH2 := hide (HH.out.ext HX2.out)
  have HT2 := hide (HH2.out.sigT p (by omega))
  clear hx1 HLD HSD HLV
  go_upto_region 3 with ((with_reducible refine wpList_store_mid rfl 56 (.tmp 7) (.tmp 27) rfl w1.heap.size 0 (sigA 8 64) rfl ?_ ?_ ?_ (sigA_one 8 64) ?_); (exact rfl); (exact HTH.out); (exact sig_size 8 64))
  change Code.wp _ _ _ _ ((w1.alloc (.cells (sigA 0 0) 56)).setCells w1.heap.size 0 (sigA 8 64).toList)
  generalize (w1.alloc (.cells (sigA 0 0) 56)).setCells w1.heap.size 0 (sigA 8 64).toList = W at *
  obtain ⟨g, hg⟩ : ∃ g, w1.heap.size = g := ⟨_, rfl⟩
  rw [hg] at HB2 ⊢
  clear HTH HXA HH hg
  have HL2 := hide (sig_range HB2.out)
  have HS2 := hide (sig_size 8 64)
  obtain ⟨hk1, hk2⟩ := HH2.out.sigSet p h1 (by omega) 8 64
  have HL3 := hide (hk1.sigR p (by omega) h2 hn)
  rw [show (s.sig p (8, 64)).sg p = (8, 64) from updN_same _ _ _] at HL3
  replace HL3 : Hid ((W.setCells H.hk (8 + p * 38 + 19) (sigL 8 64)).rangeAt H.hk (8 + p * 38 + 19) (sigL 8 64)) := HL3
  have c37 := hk1.asleep p (by omega) h2 hn
  rw [show (s.sig p (8, 64)).zz p = true from hzz] at c37
  have HK1 := hide hk1
  have HK2 := hide ((KeepL.of HX2.out b kTs [] [H.bm]).trans (hk2.wide (Nat.le_refl _) (by simp) (by simp) (by simp)))
  clear hk1 hk2
  go_upto_region 5 with (first | ((with_reducible refine wpList_load_mid rfl 56 (.tmp 7) rfl g 0 rfl (sigL 8 64) _ HL2.out Tryz.underlying56 rfl HS2.out ?_)) | ((with_reducible refine wpList_store_mid rfl 56 (.tmp 34) (.tmp 32) rfl H.hk (8 + p * 38 + 19) (sigA 8 64) rfl ?_ ?_ ?_ (sigA_one 8 64) ?_); (exact rfl); (exact HT2.out); (exact sig_size 8 64)))
  change Code.wp _ _ _ _ (W.setCells H.hk (8 + p * 38 + 19) (sigL 8 64))
  generalize W.setCells _ _ _ = W3 at *
  have HNX := hide (signext_some 64 (by omega) W3)
  clear HT2 HL2 HH2
  go_wp2_with ((with_reducible refine wpList_load_mid rfl 56 (.tmp 38) rfl H.hk (8 + p * 38 + 19) rfl (sigL 8 64) _ HL3.out Tryz.underlying56 rfl HS2.out ?_))
  refine HNX.out.mono ?_
  rintro e w4 ⟨rfl, hx4⟩
  have HH4 := hide (HK1.out.ext hx4)
  have HK4 := hide (HK2.out.trans (KeepL.of hx4 _ _ _ _))
  have c37b := hx4.cell c37
  have c5 := HH4.out.hd 5 (by omega) (v := pV H.hw) rfl
  have HOUT := hide (wout_ok HH4.out.wheel hl p)
  clear HNX HK1 HK2 HL3 hx4 c37
  go_wp2_with fail
  refine HOUT.out.mono ?_
  rintro e w5 ⟨⟨z, rfl⟩, ⟨ls, hw5, hl5⟩, hk5⟩
  have hh5 := HH4.out.wheeled hk5 hw5
  have HWK := hide (kwake_ok hh5 p h1 h2 hn)
  have HK5 := hide (HK4.out.trans (hk5.wide (Nat.le_refl _) (by simp) (by simp) (by simp)))
  clear hh5 hk5 hw5 HOUT HK4 HH4 c5 c37b
  go_wp2_with fail
  refine HWK.out.mono ?_
  rintro e w6 ⟨rfl, hh6, hk6⟩
  have HH6 := hide hh6
  have HK6 := hide (HK5.out.trans hk6)
  clear hh6 hk6 HWK HK5
  go_wp2_with fail
  (first | go_end0 | ((try simp only [Exit.inBlock, Exit.then]); refine bodyPost_ret (results_none rfl _ _ _) rfl ?_))
  exact ⟨rfl, ⟨ls, HH6.out⟩, HK6.out⟩
end
end Go.Proofs.YthmojneobkaolaaGreatDoor

namespace Go.Proofs.YthmojneobkaolaaGreatDoor
open Go.RowKit
set_option linter.unusedVariables false

/-- The first process's rights. -/
abbrev credL : List Value := [.int .i64 0, .int .i64 0, .slice none 0 0, .int .i64 127, .int .i64 0, .int .i64 0]
theorem cred_size : (Tryz.prog.info? 52).map (·.size) = some credL.length := by
  show _ = some 6
  kernel_rfl
section
variable {b : Nat} {w w' : World} {H : Hn} {s : KSt}
theorem KAt.credR (h : KAt b w H s) : w.rangeAt H.hk 57 credL := by
  obtain ⟨T, hk', h1', hcw, ht⟩ := h.ker
  have := hk'.range 1 (by omega) 11 credL (fun j v hv => by
    rw [h1']
    have hj := (List.getElem?_eq_some_iff.1 hv).1
    rcases (show j = 0 ∨ j = 1 ∨ j = 2 ∨ j = 3 ∨ j = 4 ∨ j = 5 by have : j < 6 := hj; omega) with rfl | rfl | rfl | rfl | rfl | rfl <;> exact hv)
  exact this
theorem KAt.userC (h : KAt b w H s) (p : Nat) (h1 : 1 ≤ p) (h2 : p ≤ s.n) (hn : s.n ≤ 16) : w.cell? ⟨H.hk, 8 + p * 38 + 11, none⟩ = some (.int .i64 0) := by
  obtain ⟨T, hk', h1', hcw, ht⟩ := h.ker
  exact hk'.cell p (by omega) 11 (ht p h1 h2).user
set_option maxHeartbeats 8000000 in
set_option maxRecDepth 100000 in
/-- Process 1 sends signal 3 to process 2, who sleeps and hears it. -/
theorem kkill_ok (h : KAt b w H s) (h2 : 2 ≤ s.n) (hn : s.n ≤ 16) (hsg : s.sg 2 = (0, 64)) (hzz : s.zz 2 = true) (hl : s.ls.length ≤ 20) :
    Calls Tryz.prog 108 #[pV H.hk, .int .i64 1, .int .i64 2, .int .i64 3] w fun e w' => e = .returned (.int .i64 0) ∧ (∃ ls, KAt b w' H { (s.sig 2 (8, 64)).slept 2 false with ls := ls }) ∧ KKeep b H w w' := by
  have HLV := hide (living_ok h 2 (by omega) h2 hn)
  have HCR := hide h.credR
  have HH := hide h
  clear h
  go_enter Tryz.func108, Tryz.ntmps108
  go_wp2_with fail
  refine HLV.out.mono ?_
  rintro e w' ⟨rfl, rfl⟩
  go_upto_region 7 with ((with_reducible refine wpList_load_mid rfl 52 (.tmp 28) rfl H.hk 57 rfl [.int .i64 0, .int .i64 0, .slice none 0 0, .int .i64 127, .int .i64 0, .int .i64 0] _ HCR.out Tryz.underlying52 rfl cred_size ?_))
  have HX := hide ((Ext.refl w).alloc (.cells #[.int .i64 0, .int .i64 0, .slice none 0 0, .int .i64 127, .int .i64 0, .int .i64 0] 52))
  have HBK := hide (Blk.new w 52 #[.int .i64 0, .int .i64 0, .slice none 0 0, .int .i64 127, .int .i64 0, .int .i64 0])
  obtain ⟨g, hg⟩ : ∃ g, w.heap.size = g := ⟨_, rfl⟩
  rw [hg] at HBK ⊢
  clear hg
  generalize w.alloc _ = W at *
  have HH2 := hide (HH.out.ext HX.out)
  have c0 : W.cell? ⟨g, 0, none⟩ = some (.int .i64 0) := HBK.out.cell 0
  have cu : W.cell? ⟨H.hk, 95, none⟩ = some (.int .i64 0) := HH2.out.userC 2 (by omega) h2 hn
  go_quiet (fail)
  have HX3 := hide (HX.out.trans ((Ext.refl W).drewN nq))
  have HH3 := hide (HH2.out.ext ((Ext.refl W).drewN nq))
  generalize W.drewN nq = W2 at *
  have HSN := hide (ksend_ok HH3.out 2 (by omega) h2 hn hsg hzz hl)
  have HKX := hide (show KKeep b H w W2 from KeepL.of HX3.out _ _ _ _)
  clear HH2 HH HX HX3 c0 cu HCR HLV
  go_wp2_with fail
  refine HSN.out.mono ?_
  rintro e w3 ⟨rfl, ⟨ls, hh3⟩, hk3⟩
  have HE := hide hh3
  have HKE := hide (HKX.out.trans hk3)
  clear hh3 hk3 HSN HKX HH3
  go_wp2_with fail
  go_ret
  exact ⟨rfl, ⟨ls, HE.out⟩, HKE.out⟩
end
end Go.Proofs.YthmojneobkaolaaGreatDoor

namespace Go.Proofs.YthmojneobkaolaaGreatDoor
open Go.RowKit
set_option linter.unusedVariables false

/-- The kernel's parts, each at its own count. -/
structure FkAt (b : Nat) (w : World) (H : Hn) (s : KSt) (pn sn rn : Nat) : Prop where
  ker : ∃ T, KerM w H s.now T ∧ T 1 = tkL 1 (.slice none 0 0) H.cw ∧ w.ownsRow b 3 1 H.cw 1 [.int .i64 1] ∧ ∀ p, 1 ≤ p → p ≤ s.n → TaskP (T p) (s.sg p).1 (s.sg p).2 (s.zz p)
  proc : ProcAt w H.hp pn
  opn : OpenAt w H.ho
  space : SpaceAt b w H.hm H.bm sn
  run : ∃ m, 0 < m ∧ m ≤ rn ∧ RunN b w H.hr m
  wheel : WheelAt b w H.hw s.now s.ls
  ge : b ≤ H.hk ∧ b ≤ H.hp ∧ b ≤ H.ho
  bw : b ≤ w.heap.size
section
variable {b : Nat} {w w' : World} {H : Hn} {s : KSt} {pn sn rn : Nat}
theorem KAt.fk (h : KAt b w H s) : FkAt b w H s s.n s.n s.n := ⟨h.ker, h.proc, h.opn, h.space, h.run, h.wheel, h.ge, h.bw⟩
theorem FkAt.ext (h : FkAt b w H s pn sn rn) (hx : Ext w w') : FkAt b w' H s pn sn rn := by
  obtain ⟨T, hk, h1, hcw, ht⟩ := h.ker
  obtain ⟨m, hm0, hm1, hr⟩ := h.run
  exact ⟨⟨T, hk.ext hx, h1, hx.own hcw, ht⟩, h.proc.extA hx, h.opn.extA hx, h.space.ext hx, ⟨m, hm0, hm1, hr.extA hx⟩, h.wheel.ext hx, h.ge, Nat.le_trans h.bw hx.size⟩
/-- Blocks of types that are none of the kernel's. -/
def Far (L : List TypeId) : Prop := 68 ∉ L ∧ 185 ∉ L ∧ 180 ∉ L ∧ 114 ∉ L ∧ 118 ∉ L ∧ 108 ∉ L ∧ tmT ∉ L ∧ 189 ∉ L ∧ 3 ∉ L
theorem FkAt.far {b' : Nat} {L : List TypeId} (h : FkAt b w H s pn sn rn) (hk : KeepL b' L [] [] w w') (hL : Far L) : FkAt b w' H s pn sn rn := by
  obtain ⟨l1, l2, l3, l4, l5, l6, l7, l8, l9⟩ := hL
  obtain ⟨T, hk', h1', hcw, ht⟩ := h.ker
  obtain ⟨m, hm0, hm1, hr⟩ := h.run
  exact ⟨⟨T, hk'.keep hk l1 (by simp), h1', hk.own hcw l9 (by simp), ht⟩, h.proc.keep hk l2 rfl, h.opn.keep hk l3 rfl, h.space.keep hk l8 (by simp), ⟨m, hm0, hm1, hr.keep hk l4 l5 rfl⟩, h.wheel.keep hk l6 l7 rfl, h.ge, Nat.le_trans h.bw hk.size⟩
theorem FkAt.spaced (h : FkAt b w H s pn sn rn) {sn' : Nat} (hk : KeepL b [] [] [H.bm] w w') (hs : SpaceAt b w' H.hm H.bm sn') : FkAt b w' H s pn sn' rn := by
  obtain ⟨T, hk', h1', hcw, ht⟩ := h.ker
  obtain ⟨m, hm0, hm1, hr⟩ := h.run
  exact ⟨⟨T, hk'.keep hk (by simp) (by simp), h1', hk.own hcw (by simp) (by simp), ht⟩, h.proc.keep hk (by simp) rfl, h.opn.keep hk (by simp) rfl, hs, ⟨m, hm0, hm1, hr.keep hk (by simp) (by simp) rfl⟩, h.wheel.keep hk (by simp) (by simp) rfl, h.ge, Nat.le_trans h.bw hk.size⟩
theorem FkAt.proced (h : FkAt b w H s pn sn rn) {b' pn' : Nat} (hk : KeepL b' [185] [] [] w w') (hs : ProcAt w' H.hp pn') : FkAt b w' H s pn' sn rn := by
  obtain ⟨T, hk', h1', hcw, ht⟩ := h.ker
  obtain ⟨m, hm0, hm1, hr⟩ := h.run
  exact ⟨⟨T, hk'.keep hk (by decide) (by simp), h1', hk.own hcw (by decide) (by simp), ht⟩, hs, h.opn.keep hk (by decide) rfl, h.space.keep hk (by decide) (by simp), ⟨m, hm0, hm1, hr.keep hk (by decide) (by decide) rfl⟩, h.wheel.keep hk (by decide) (by decide) rfl, h.ge, Nat.le_trans h.bw hk.size⟩
theorem FkAt.opened (h : FkAt b w H s pn sn rn) {b' : Nat} (hk : KeepL b' [180] [] [] w w') (hs : OpenAt w' H.ho) : FkAt b w' H s pn sn rn := by
  obtain ⟨T, hk', h1', hcw, ht⟩ := h.ker
  obtain ⟨m, hm0, hm1, hr⟩ := h.run
  exact ⟨⟨T, hk'.keep hk (by decide) (by simp), h1', hk.own hcw (by decide) (by simp), ht⟩, h.proc.keep hk (by decide) rfl, hs, h.space.keep hk (by decide) (by simp), ⟨m, hm0, hm1, hr.keep hk (by decide) (by decide) rfl⟩, h.wheel.keep hk (by decide) (by decide) rfl, h.ge, Nat.le_trans h.bw hk.size⟩
theorem FkAt.ran (h : FkAt b w H s pn sn rn) {rn' : Nat} (hk : KeepL b [114, 118] [] [] w w') (hs : ∃ m, 0 < m ∧ m ≤ rn' ∧ RunN b w' H.hr m) : FkAt b w' H s pn sn rn' := by
  obtain ⟨T, hk', h1', hcw, ht⟩ := h.ker
  exact ⟨⟨T, hk'.keep hk (by decide) (by simp), h1', hk.own hcw (by decide) (by simp), ht⟩, h.proc.keep hk (by decide) rfl, h.opn.keep hk (by decide) rfl, h.space.keep hk (by decide) (by simp), hs, h.wheel.keep hk (by decide) (by decide) rfl, h.ge, Nat.le_trans h.bw hk.size⟩
/-- A new task, asleep or not, behind the others. -/
def KSt.born (s : KSt) : KSt := { s with n := s.n + 1, zz := updN s.zz (s.n + 1) false, sg := updN s.sg (s.n + 1) (0, 0) }
theorem FkAt.born (h : FkAt b w H s (s.n + 1) (s.n + 1) s.n) (hn1 : 1 ≤ s.n) (hn : s.n ≤ 15) {l : List Value} (hl : TaskP l 0 0 false) :
    KAt b (w.setCells H.hk (8 + (s.n + 1) * 38) l) H s.born ∧ KeepL b [68] [] [] w (w.setCells H.hk (8 + (s.n + 1) * 38) l) := by
  obtain ⟨T, hk', h1', hcw, ht⟩ := h.ker
  obtain ⟨m, hm0, hm1, hr⟩ := h.run
  have hk := hk'.ksets h.ge.1 (8 + (s.n + 1) * 38) l
  refine ⟨⟨⟨_, hk'.sets (s.n + 1) (by omega) 0 l (by rw [hl.len]; omega), ?_, hk.own hcw (by decide) (by simp), fun p hp1 hp2 => ?_⟩, h.proc.keep hk (by decide) rfl, h.opn.keep hk (by decide) rfl, h.space.keep hk (by decide) (by simp), ⟨m, hm0, Nat.le_succ_of_le hm1, hr.keep hk (by decide) (by decide) rfl⟩, h.wheel.keep hk (by decide) (by decide) rfl, h.ge, Nat.le_trans h.bw hk.size⟩, hk⟩
  · rw [updN_other _ _ _ _ (by omega)]
    exact h1'
  · by_cases e : p = s.n + 1
    · subst e
      simp only [KSt.born, updN_same]
      have e1 : spl (T (s.n + 1)) 0 l = l := by
        unfold spl
        rw [List.take_zero, List.nil_append, List.drop_of_length_le (by rw [hl.len]; obtain ⟨cs, hb, hs, hh, hn', ht'⟩ := hk'; rw [(ht' (s.n + 1) (by omega)).1]; omega), List.append_nil]
      rw [e1]
      exact hl
    · have hp3 : p ≤ s.n := by
        have : p ≤ s.n + 1 := hp2
        omega
      simp only [KSt.born, updN_other _ _ _ _ e]
      exact ht p hp1 hp3
/-- Of the first task. -/
theorem FkAt.first (h : FkAt b w H s pn sn rn) : ∃ A c, w.rangeAt H.hk 46 (tkL 1 (.slice none 0 0) (.slice A 1 c)) ∧ w.ownsRow b 3 1 (.slice A 1 c) 1 [.int .i64 1] := by
  obtain ⟨T, hk', h1', hcw, ht⟩ := h.ker
  obtain ⟨A, c, hv, -, -, -⟩ := own_form hcw
  rw [hv] at h1' hcw
  refine ⟨A, c, ?_, hcw⟩
  have := hk'.range 1 (by omega) 0 (tkL 1 (.slice none 0 0) (.slice A 1 c)) (fun j v hv => by rw [h1', Nat.zero_add]; exact hv)
  exact this
theorem FkAt.hd (h : FkAt b w H s pn sn rn) (j : Nat) (hj : j < 8) {v : Value} (hv : (hdV H)[j]? = some v) : w.cell? ⟨H.hk, j, none⟩ = some v := by
  obtain ⟨T, hk', h1', hcw, ht⟩ := h.ker
  exact hk'.hd j hj hv
theorem FkAt.thereT (h : FkAt b w H s pn sn rn) (p : Nat) (hp : p < 17) : w.there H.hk (8 + p * 38) 38 := by
  obtain ⟨T, hk', h1', hcw, ht⟩ := h.ker
  exact hk'.there p hp 0 38 (by omega)
theorem ktask_size (sp : Int) (m c : Value) : (Tryz.prog.info? 58).map (·.size) = some (tkL sp m c).length := by
  show _ = some 38
  kernel_rfl
theorem tkL_one (sp : Int) (A B : Option Addr) (m c m' c' : Nat) : (tkL sp (.slice A m c) (.slice B m' c')).toArray.all (·.oneCell') = true := by simp [tkL, sigL, howA, Value.oneCell']
theorem tkL_set0 (sp sp' : Int) (m c : Value) : (tkL sp m c).toArray.setIfInBounds 0 (.int .i64 sp') = (tkL sp' m c).toArray := rfl
theorem tkL_set13 (sp : Int) (m m' c : Value) : (tkL sp m c).toArray.setIfInBounds 13 m' = (tkL sp m' c).toArray := rfl
theorem tkL_set17 (sp : Int) (m c c' : Value) : (tkL sp m c).toArray.setIfInBounds 17 c' = (tkL sp m c').toArray := rfl
theorem tkL_set18 (sp : Int) (m c : Value) : (tkL sp m c).toArray.setIfInBounds 18 (.slice none 0 0) = (tkL sp m c).toArray := rfl
theorem tkL_setR (sp : Int) (m c : Value) : (((tkL sp m c).toArray.setIfInBounds 1 (.int .u32 0)).setIfInBounds 2 (.int .u32 0)).setIfInBounds 3 (.int .u32 0) = (tkL sp m c).toArray := rfl
theorem tkL_sig (sp : Int) (m c : Value) : arrSet (tkL sp m c).toArray 19 (sigL 0 0) = (tkL sp m c).toArray := by
  apply Array.ext_getElem?
  intro i
  rw [arrSet_get _ _ _ (by show 19 + 18 ≤ 38; omega)]
  by_cases e : 19 ≤ i ∧ i < 19 + (sigL 0 0).length
  · rw [if_pos e, List.getElem?_toArray]
    have := (tkL_task sp m c).sg (i - 19) (by have : (sigL 0 0).length = 18 := rfl; omega)
    rw [show 19 + (i - 19) = i by omega] at this
    exact this.symm
  · rw [if_neg e]
/-- All that is known while it forks. -/
structure FkW (b : Nat) (w0 w : World) (H : Hn) (s : KSt) (pn sn rn g : Nat) (A : Option Addr) (c : Nat) (sp : Int) (m cw : Value) : Prop where
  k : FkAt b w H s pn sn rn
  tb : Blk w (g + 1) 58 (tkL sp m cw).toArray
  ab : Blk w g 34 (ansL 0 0 0).toArray
  own : w.ownsRow b 3 1 (.slice A 1 c) 1 [.int .i64 1]
  kk : KKeep b H w0 w
  new : w0.heap.size ≤ g
theorem FkW.ext {w0 : World} {g : Nat} {A : Option Addr} {c : Nat} {sp : Int} {m cw : Value} (h : FkW b w0 w H s pn sn rn g A c sp m cw) (hx : Ext w w') : FkW b w0 w' H s pn sn rn g A c sp m cw :=
  ⟨h.k.ext hx, h.tb.ext hx, h.ab.ext hx, hx.own h.own, h.kk.trans (KeepL.of hx _ _ _ _), h.new⟩
theorem far_task : Far [58] := by unfold Far; decide
theorem far_ans : Far [34] := by unfold Far; decide
theorem FkW.sets {w0 : World} {g : Nat} {A : Option Addr} {c : Nat} {sp sp' : Int} {m cw m' cw' : Value} (h : FkW b w0 w H s pn sn rn g A c sp m cw) (o : Nat) (vs : List Value) (he : arrSet (tkL sp m cw).toArray o vs = (tkL sp' m' cw').toArray) : FkW b w0 (w.setCells (g + 1) o vs) H s pn sn rn g A c sp' m' cw' := by
  have hk : KeepL 0 [58] [] [] w (w.setCells (g + 1) o vs) := KeepL.row h.tb (.inl (by simp)) (Nat.zero_le _) (setCells_grown _ _ _ _)
  refine ⟨h.k.far hk far_task, ?_, hk.blk h.ab (by decide) (by simp), hk.own h.own (by decide) (by simp), h.kk.fresh (Nat.le_succ_of_le h.new) o vs, h.new⟩
  rw [← he]
  exact h.tb.setCells vs o
theorem FkW.set {w0 : World} {g : Nat} {A : Option Addr} {c : Nat} {sp sp' : Int} {m cw m' cw' : Value} (h : FkW b w0 w H s pn sn rn g A c sp m cw) (o : Nat) (v : Value) (he : (tkL sp m cw).toArray.setIfInBounds o v = (tkL sp' m' cw').toArray) : FkW b w0 (w.setCell ⟨g + 1, o, none⟩ v) H s pn sn rn g A c sp' m' cw' :=
  h.sets o [v] he
theorem FkW.spaced {w0 : World} {g : Nat} {A : Option Addr} {c : Nat} {sp : Int} {m cw : Value} (h : FkW b w0 w H s pn sn rn g A c sp m cw) {sn' : Nat} (hk : KeepL b [] [] [H.bm] w w') (hs : SpaceAt b w' H.hm H.bm sn') : FkW b w0 w' H s pn sn' rn g A c sp m cw :=
  ⟨h.k.spaced hk hs, hk.blk h.tb (by simp) (by simp), hk.blk h.ab (by simp) (by simp), hk.own h.own (by simp) (by simp), h.kk.trans (hk.wide (Nat.le_refl _) (by simp) (by simp) (by simp)), h.new⟩
theorem FkW.proced {w0 : World} {g : Nat} {A : Option Addr} {c : Nat} {sp : Int} {m cw : Value} (h : FkW b w0 w H s pn sn rn g A c sp m cw) {pn' : Nat} (hk : KeepL H.hp [185] [] [] w w') (hs : ProcAt w' H.hp pn') : FkW b w0 w' H s pn' sn rn g A c sp m cw :=
  ⟨h.k.proced hk hs, hk.blk h.tb (by decide) (by simp), hk.blk h.ab (by decide) (by simp), hk.own h.own (by decide) (by simp), h.kk.trans (hk.wide h.k.ge.2.1 (by simp) (by simp) (by simp)), h.new⟩
theorem FkW.opened {w0 : World} {g : Nat} {A : Option Addr} {c : Nat} {sp : Int} {m cw : Value} (h : FkW b w0 w H s pn sn rn g A c sp m cw) (hk : KeepL H.ho [180] [] [] w w') (hs : OpenAt w' H.ho) : FkW b w0 w' H s pn sn rn g A c sp m cw :=
  ⟨h.k.opened hk hs, hk.blk h.tb (by decide) (by simp), hk.blk h.ab (by decide) (by simp), hk.own h.own (by decide) (by simp), h.kk.trans (hk.wide h.k.ge.2.2 (by simp) (by simp) (by simp)), h.new⟩
theorem FkW.thereA {w0 : World} {g : Nat} {A : Option Addr} {c : Nat} {sp : Int} {m cw : Value} (h : FkW b w0 w H s pn sn rn g A c sp m cw) : w.there g 0 11 := h.ab.there_ 0 11 (by simp [ansL])
/-- The new task laid, and the run told. -/
theorem FkW.born {w0 : World} {g : Nat} {A : Option Addr} {c : Nat} {sp : Int} {m cw : Value} (h : FkW b w0 w H s (s.n + 1) (s.n + 1) s.n g A c sp m cw) (hn1 : 1 ≤ s.n) (hn : s.n ≤ 15) :
    KAt b (w.setCells H.hk (8 + (s.n + 1) * 38) (tkL sp m cw)) H s.born ∧ Blk (w.setCells H.hk (8 + (s.n + 1) * 38) (tkL sp m cw)) g 34 (ansL 0 0 0).toArray ∧ KKeep b H w0 (w.setCells H.hk (8 + (s.n + 1) * 38) (tkL sp m cw)) ∧ ∃ m', 0 < m' ∧ m' ≤ s.n ∧ RunN b (w.setCells H.hk (8 + (s.n + 1) * 38) (tkL sp m cw)) H.hr m' := by
  obtain ⟨h1, h2⟩ := h.k.born hn1 hn (tkL_task sp m cw)
  obtain ⟨m', hm0, hm1, hr⟩ := h.k.run
  exact ⟨h1, h2.blk h.ab (by decide) (by simp), h.kk.trans (h2.wide (Nat.le_refl _) (by simp) (by simp) (by simp)), m', hm0, hm1, hr.keep h2 (by decide) (by decide) rfl⟩
/-- A row of a block just made has grown. -/
theorem ext_new {w w' : World} {o : Obj} {n c : Nat} (hg : (w.alloc o).grownBy w' (Value.ownBlock (.slice (some ⟨w.heap.size, 0, none⟩) n c))) : Ext w w' :=
  Ext.grown ((Ext.refl w).alloc o) hg (fun k hk => by
    simp only [Value.ownBlock, Option.some.injEq] at hk
    omega)
theorem append_nil (t e : TypeId) (i : TypeInfo) (ht : Tryz.prog.underlying t = some (.slice e)) (hi : Tryz.prog.info? e = some i) (ty : TypeId) (w : World) : (Builtin.append_ #[t, t] ty #[.slice none 0 0, .slice none 0 0]).run Tryz.prog w = .ok (.slice none 0 0) w :=
  run_append_of_nil w 0 t ty e i 0 ht hi (.slice none 0 0) 0 [] (World.ownsRow_nil _ _ _ _) 0
theorem step_append_eq {ops : Array Oper} {o : Oper} {a : Act} {w : World} {K : Act → World → Prop} {Q : Exit → Act → World → Prop} {E : Prop} (hgd : o.guard = none) (d s : Operand) (t t' : TypeId)
    (ho : o.op = .call { callee := .builtin .append, args := #[d, s], argTypes := #[t, t'] }) (v u : Value) (hd : a.eval d = v) (hs : a.eval s = u) {v' : Value} {w' : World}
    (hr : (Builtin.append_ #[t, t'] o.type #[v, u]).run Tryz.prog w = .ok v' w') (h : K (a.put o.dst v') w') : if Region.wanted o (yielded ops a.tmps) = true then Oper.wp Tryz.prog o a w K Q else E := by
  have hw : Region.wanted o (yielded ops a.tmps) = true := by simp [Region.wanted, hgd]
  rw [if_pos hw]
  exact wp_append_eqN w d s t t' ho v u hd hs hr h
theorem mount_info : ∃ i, Tryz.prog.info? 289 = some i := Option.isSome_iff_exists.1 (by kernel_rfl)
theorem append_mounts (ty : TypeId) (w : World) : (Builtin.append_ #[53, 53] ty #[.slice none 0 0, .slice none 0 0]).run Tryz.prog w = .ok (.slice none 0 0) w := by
  obtain ⟨i, hi⟩ := mount_info
  exact append_nil _ _ i Tryz.underlying53 hi ty w
theorem FkW.sigs {w0 : World} {g : Nat} {A : Option Addr} {c : Nat} {sp : Int} {m cw : Value} (h : FkW b w0 w H s pn sn rn g A c sp m cw) : w.rangeAt (g + 1) 19 (sigL 0 0) := h.tb.range 19 _ fun j v hv => by
  have hj := (List.getElem?_eq_some_iff.1 hv).1
  rw [List.getElem?_toArray, (tkL_task sp m cw).sg j hj, hv]
theorem FkW.thereS {w0 : World} {g : Nat} {A : Option Addr} {c : Nat} {sp : Int} {m cw : Value} (h : FkW b w0 w H s pn sn rn g A c sp m cw) : w.there (g + 1) 19 18 := h.tb.there_ 19 18 (by rw [List.size_toArray, (tkL_task sp m cw).len]; omega)
theorem FkW.regs {w0 : World} {g : Nat} {A : Option Addr} {c : Nat} {sp : Int} {m cw : Value} (h : FkW b w0 w H s pn sn rn g A c sp m cw) : FkW b w0 (((w.setCell ⟨g + 1, 1, none⟩ (.int .u32 0)).setCell ⟨g + 1, 2, none⟩ (.int .u32 0)).setCell ⟨g + 1, 3, none⟩ (.int .u32 0)) H s pn sn rn g A c sp m cw :=
  ((h.set (m' := m) (cw' := cw) 1 (.int .u32 0) rfl).set (sp' := sp) (m' := m) (cw' := cw) 2 (.int .u32 0) rfl).set 3 (.int .u32 0) rfl
end
end Go.Proofs.YthmojneobkaolaaGreatDoor

namespace Go.Proofs.YthmojneobkaolaaGreatDoor
open Go.RowKit
set_option linter.unusedVariables false

/-- A task's cells before it is laid. -/
abbrev tk0 : Array Value := #[.int .i64 0, .int .u32 0, .int .u32 0, .int .u32 0, .int .u32 0, .int .u32 0, .int .u32 0, .int .u32 0, .int .u32 0, .int .u32 0, .int .i64 0, .int .i64 0, .int .i64 0, .slice none 0 0, .int .i64 0, .int .i64 0, .int .i64 0, .slice none 0 0, .slice none 0 0, .int .i64 0, .int .i64 0, .int .i64 0, .int .i64 0, .int .i64 0, .int .i64 0, .int .i64 0, .int .i64 0, .int .i64 0, .int .i64 0, .int .i64 0, .int .i64 0, .int .i64 0, .int .i64 0, .int .i64 0, .int .i64 0, .int .i64 0, .int .i64 0, .bool false]
section
variable {b : Nat} {w w' : World} {H : Hn} {s : KSt}
set_option maxHeartbeats 8000000 in
set_option maxRecDepth 100000 in
theorem kfork_ok (h : KAt b w H s) (hn1 : 1 ≤ s.n) (hn : s.n ≤ 15) :
    Calls Tryz.prog 105 #[pV H.hk, .int .i64 1] w fun e w' => e = .returned (ansV 0 ((s.n : Int) + 1) 0) ∧ KAt b w' H s.born ∧ KKeep b H w w' := by
  have hx0 := (Ext.refl w).alloc (.cells (ansL 0 0 0).toArray 34)
  have hba := Blk.new w 34 (ansL 0 0 0).toArray
  have HBA := hide hba
  have HX := hide hx0
  have HH := hide (h.fk.ext hx0)
  have hbw := h.bw
  simp only [ansL] at HBA HX HH
  clear h hba hx0
  go_enter Tryz.func105, Tryz.ntmps105
  go_upto_region 1 with fail
  obtain ⟨g, hg⟩ : ∃ g, w.heap.size = g := ⟨_, rfl⟩
  have hsz : (w.alloc (.cells #[.int .i64 0, .int .i64 0, .int .i64 0, .slice none 0 0, .slice none 0 0, .int .i64 0, .int .i64 0, .int .i64 0, .int .i64 0, .int .i64 0, .int .i64 0] 34)).heap.size = g + 1 := by simp [hg]
  rw [hg] at HBA ⊢
  generalize w.alloc _ = W at *
  obtain ⟨A, c, hfr, hfo⟩ := HH.out.first
  have HFR := hide hfr
  have HFO := hide hfo
  have HSZ := hide (ktask_size 1 (.slice none 0 0) (.slice A 1 c))
  have HXT := hide ((Ext.refl W).alloc (.cells tk0 58))
  have HBT := hide (Blk.new W 58 tk0)
  rw [hsz] at HBT
  have HTT := hide (HBT.out.there_ 0 38 (by simp))
  have HB1 := hide (HBT.out.setAll (tkL 1 (.slice none 0 0) (.slice A 1 c)) rfl)
  have HX1 := hide (HXT.out.setCells (g := g + 1) (by omega) 0 (tkL 1 (.slice none 0 0) (.slice A 1 c)))
  clear hfr hfo
  go_upto_region 2 with (first | ((with_reducible refine wpList_load_mid rfl 58 (.tmp 13) rfl H.hk 46 rfl (tkL 1 (.slice none 0 0) (.slice A 1 c)) _ HFR.out Tryz.underlying58 rfl HSZ.out ?_)) | ((with_reducible refine wpList_store_mid rfl 58 (.tmp 5) (.tmp 14) rfl (g + 1) 0 (tkL 1 (.slice none 0 0) (.slice A 1 c)).toArray ?_ ?_ ?_ ?_ (tkL_one 1 none A 0 0 1 c) ?_); (rw [← hsz]; rfl); (exact rfl); (exact HTT.out); (exact HSZ.out)))
  change Code.wp _ _ _ _ ((W.alloc (.cells tk0 58)).setCells (g + 1) 0 (tkL 1 (.slice none 0 0) (.slice A 1 c)))
  have HW1 := hide (FkW.mk (HH.out.ext HX1.out) HB1.out (HBA.out.ext HX1.out) (HX1.out.own HFO.out) (KeepL.of (HX.out.trans HX1.out) b kTs [] [H.bm]) (show w.heap.size ≤ g by omega))
  clear HTT HBT HXT HSZ HFR HH HX HBA HX1 HFO HB1
  generalize (W.alloc _).setCells _ _ _ = W1 at *
  have hxd : Ext W1 W1.drew := (Ext.refl W1).drew
  have HWD := hide (HW1.out.ext hxd)
  have HSF := hide (spacefork_ok HWD.out.k.space (by omega) 1 (by omega) hn1)
  rw [show ((1 : Nat) : Int) = 1 from rfl] at HSF
  have c1 : W1.drew.cell? ⟨H.hk, 1, none⟩ = some (pV H.hm) := HWD.out.k.hd 1 (by omega) rfl
  have t0 : W1.drew.cell? ⟨g + 1, 0, none⟩ = some (.int .i64 1) := HWD.out.tb.cell 0
  clear HW1 hxd
  go_region_held3 (fun w' => w'.cell? ⟨H.hk, 1, none⟩ = some (pV H.hm) ∧ w'.cell? ⟨g + 1, 0, none⟩ = some (.int .i64 1)) (first | exact ⟨c1, t0⟩ | exact k9 | fail)
    (first | (go_at_call 184; (with_reducible refine HSF.out.mono ?_); rintro e w9 ⟨rfl, hs9, hk9⟩; have hh9 := HWD.out.spaced hk9 hs9; have k9 : w9.cell? ⟨H.hk, 1, none⟩ = some (pV H.hm) ∧ w9.cell? ⟨g + 1, 0, none⟩ = some (.int .i64 1) := ⟨hh9.k.hd 1 (by omega) rfl, hh9.tb.cell 0⟩) | fail)
  all_goals
    have HW2 := hide hh9
    have c7 := hh9.k.hd 7 (by omega) (v := pV H.hp) rfl
    have HPF := hide (procfork_ok hh9.k.proc hn1 hn)
    clear hs9 hh9 hk9 k9 HSF c1 t0 HWD
    go_wp2_with fail
    refine HPF.out.mono ?_
    rintro e w3 ⟨rfl, hp3, hk3⟩
    have HW3 := hide (HW2.out.proced hk3 hp3)
    have c6 := HW3.out.k.hd 6 (by omega) (v := pV H.ho) rfl
    have HOF := hide (openfork_ok HW3.out.k.opn 1 (s.n + 1) (by omega) (by omega) (by omega) (by omega) (by omega))
    rw [show ((s.n + 1 : Nat) : Int) = (s.n : Int) + 1 from by omega] at HOF
    clear hp3 hk3 HPF c7 HW2
    go_wp2_with fail
    refine HOF.out.mono ?_
    rintro e w4 ⟨rfl, ho4, hk4⟩
    have HW4 := hide (HW3.out.opened hk4 ho4)
    have t0 : w4.cell? ⟨g + 1, 0, none⟩ = some (.int .i64 1) := HW4.out.tb.cell 0
    have f0 := HW4.out.tb.frozen 0
    have HW5 := hide (HW4.out.set 0 (.int .i64 ((s.n : Int) + 1)) (tkL_set0 _ _ _ _))
    clear ho4 hk4 HOF c6 HW3
    go_upto_region 11 with fail
    generalize w4.setCell _ _ = w5 at *
    clear t0 f0 HW4
    obtain ⟨i0, hi0, hz0, hz1, hz2⟩ := info_parts int_info2
    have HWA := hide (HW5.out.ext ((Ext.refl w5).alloc (.cells #[] 3)))
    have t13 : (w5.alloc (.cells #[] 3)).cell? ⟨g + 1, 13, none⟩ = some (.slice none 0 0) := HWA.out.tb.cell 13
    go_upto_region 12 with (at_builtin; refine wpList_append_any _ rfl (.tmp 57) (.tmp 60) 22 rfl w5.heap.size 3 i0 _ 1 8 Tryz.underlying22 hi0 hz0 hz1 hz2 rfl (by omega) _ 0 [] rfl (World.ownsRow_made w5 #[] 0 (Nat.le_refl _) (Nat.zero_le _) rfl) 0 none 0 0 [] rfl Reads.none_ (by simp) (by simp only [maxLen]; omega) (by omega) (by simp) ?_; intro A1 c1 w6 hown1 hg1 hadr1; have HX6 := hide (ext_new hg1); have t13b : w6.cell? ⟨g + 1, 13, none⟩ = some (.slice none 0 0) := (HW5.out.ext HX6.out).tb.cell 13; have f13 := (HW5.out.ext HX6.out).tb.frozen 13)
    have HW6 := hide ((HW5.out.ext HX6.out).set 13 (.slice A1 0 c1) (tkL_set13 _ _ _ _))
    generalize w6.setCell _ _ = w7 at *
    clear t13b f13 HX6 hown1 hg1 hadr1 HWA HW5
    have HRD := hide (Reads.of_own HW6.out.own)
    have HWB := hide (HW6.out.ext ((Ext.refl w7).alloc (.cells #[] 3)))
    have t17 : (w7.alloc (.cells #[] 3)).cell? ⟨g + 1, 17, none⟩ = some (.slice A 1 c) := HWB.out.tb.cell 17
    have HRB := hide (((Ext.refl w7).alloc (.cells #[] 3)).reads HRD.out (Nat.le_refl _))
    go_upto_region 13 with (at_builtin; refine wpList_append_any _ rfl (.tmp 64) (.tmp 66) 22 rfl w7.heap.size 3 i0 _ 1 8 Tryz.underlying22 hi0 hz0 hz1 hz2 rfl (by omega) _ 0 [] rfl (World.ownsRow_made w7 #[] 0 (Nat.le_refl _) (Nat.zero_le _) rfl) w7.heap.size A 1 c [.int .i64 1] rfl HRB.out (by intro u hu; simp only [List.mem_cons, List.not_mem_nil, or_false] at hu; subst hu; rfl) (by simp only [maxLen]; omega) (by omega) (by simp) ?_; intro A2 c2 w8 hown2 hg2 hadr2; have HX8 := hide (ext_new hg2); have t17b : w8.cell? ⟨g + 1, 17, none⟩ = some (.slice A 1 c) := (HW6.out.ext HX8.out).tb.cell 17; have f17 := (HW6.out.ext HX8.out).tb.frozen 17)
    have HW8 := hide ((HW6.out.ext HX8.out).set 17 (.slice A2 1 c2) (tkL_set17 _ _ _ _))
    generalize w8.setCell _ _ = w9 at *
    clear t17b f17 HX8 hown2 hg2 hadr2 HWB HW6 HRD HRB
    have t18 : w9.drew.cell? ⟨g + 1, 18, none⟩ = some (.slice none 0 0) := HW8.out.tb.cell 18
    have f18 : w9.drew.frozen? ⟨g + 1, 18, none⟩ = false := HW8.out.tb.frozen 18
    refine (fun (hkey : (?T : Prop)) => ?main) ?pf
    case main =>
      refine wp_region_any (by kernel_rfl) ?_
      try (change wpAny _ _ _ _ _ _ _ (World.drew _))
      refine take_op (i := 0) (d := some 69) (v := ?v1001) rfl (by kernel_rfl) (by kernel_rfl) (by kernel_rfl) (fun _ _ _ h => h) (fun oi ho => ?hy1001) ?rest1001
      case hy1001 => (simp only [List.getElem?_toArray, List.getElem?_cons_zero, Option.some.injEq] at ho; subst ho; refine Or.inl ⟨by rfl, fun w' => ?_⟩; go_simp; try (with_reducible rfl))
      simp only [Act.put, List.setIfInBounds_toArray, List.set_cons_zero, List.set_cons_succ]
      refine take_op (i := 3) (d := some 72) (v := ?v1002) rfl (by kernel_rfl) (by kernel_rfl) (by kernel_rfl) (fun _ _ _ h => h) (fun oi ho => ?hy1002) ?rest1002
      case hy1002 => (simp only [List.getElem?_toArray, List.getElem?_cons_succ, List.getElem?_cons_zero, Option.some.injEq] at ho; subst ho; refine Or.inl ⟨by rfl, fun w' => ?_⟩; go_simp; try (with_reducible rfl))
      simp only [Act.put, List.setIfInBounds_toArray, List.set_cons_zero, List.set_cons_succ]
      refine wpAny_ready (rs := [1, 4]) (by kernel_rfl) (by simp) ?_
      refine cons_op (by decide) (fun o ho K hK => ?_) ?_
      simp only [List.getElem?_toArray, List.getElem?_cons_succ, List.getElem?_cons_zero, Option.some.injEq] at ho
      subst ho
      go_simp
      refine hK _ _ ?_
      clear hK K
      refine take_op (i := 2) (d := some 71) (v := ?v1003) rfl (by kernel_rfl) (by kernel_rfl) (by kernel_rfl) (fun _ _ _ h => h) (fun oi ho => ?hy1003) ?rest1003
      case hy1003 => (simp only [List.getElem?_toArray, List.getElem?_cons_succ, List.getElem?_cons_zero, Option.some.injEq] at ho; subst ho; refine Or.inl ⟨by rfl, fun w' => ?_⟩; go_simp; try (with_reducible rfl))
      simp only [Act.put, List.setIfInBounds_toArray, List.set_cons_zero, List.set_cons_succ]
      refine wpAny_ready (rs := [4]) (by kernel_rfl) (by simp) ?_
      refine cons_op (by decide) (fun o ho K hK => ?_) ?_
      simp only [List.getElem?_toArray, List.getElem?_cons_succ, List.getElem?_cons_zero, Option.some.injEq] at ho
      subst ho
      go_simp
      refine hK _ _ ?_
      clear hK K
      refine wpAny_ready (rs := [5]) (by kernel_rfl) (by simp) ?_
      refine cons_op (by decide) (fun o ho K hK => ?_) ?_
      simp only [List.getElem?_toArray, List.getElem?_cons_succ, List.getElem?_cons_zero, Option.some.injEq] at ho
      subst ho
      refine step_append_eq (by rfl) _ _ 53 53 (by rfl) _ _ (by rfl) (by rfl) (append_mounts _ _) ?_
      refine hK _ _ ?_
      clear hK K
      simp only [Act.put, List.setIfInBounds_toArray, List.set_cons_zero, List.set_cons_succ]
      refine take_op (i := 6) (d := some 75) (v := ?v1004) rfl (by kernel_rfl) (by kernel_rfl) (by kernel_rfl) (fun _ _ _ h => h) (fun oi ho => ?hy1004) ?rest1004
      case hy1004 => (simp only [List.getElem?_toArray, List.getElem?_cons_succ, List.getElem?_cons_zero, Option.some.injEq] at ho; subst ho; refine Or.inl ⟨by rfl, fun w' => ?_⟩; go_simp; try (with_reducible rfl))
      simp only [Act.put, List.setIfInBounds_toArray, List.set_cons_zero, List.set_cons_succ]
      refine wpAny_ready (rs := [7]) (by kernel_rfl) (by simp) ?_
      refine cons_op (by decide) (fun o ho K hK => ?_) ?_
      simp only [List.getElem?_toArray, List.getElem?_cons_succ, List.getElem?_cons_zero, Option.some.injEq] at ho
      subst ho
      go_simp
      refine hK _ _ ?_
      clear hK K
      refine wpAny_done (by kernel_rfl) ?_ _
      rotate_left
      exact AllReady.nil
      exact AllReady.nil
      exact AllReady.nil
      refine cons_op (by decide) (fun o ho K hK => ?_) ?_
      simp only [List.getElem?_toArray, List.getElem?_cons_succ, List.getElem?_cons_zero, Option.some.injEq] at ho
      subst ho
      go_simp
      refine hK _ _ ?_
      clear hK K
      refine wpAny_ready (rs := [1]) (by kernel_rfl) (by simp) ?_
      refine cons_op (by decide) (fun o ho K hK => ?_) ?_
      simp only [List.getElem?_toArray, List.getElem?_cons_succ, List.getElem?_cons_zero, Option.some.injEq] at ho
      subst ho
      go_simp
      refine hK _ _ ?_
      clear hK K
      refine take_op (i := 2) (d := some 71) (v := ?v1005) rfl (by kernel_rfl) (by kernel_rfl) (by kernel_rfl) (fun _ _ _ h => h) (fun oi ho => ?hy1005) ?rest1005
      case hy1005 => (simp only [List.getElem?_toArray, List.getElem?_cons_succ, List.getElem?_cons_zero, Option.some.injEq] at ho; subst ho; refine Or.inl ⟨by rfl, fun w' => ?_⟩; go_simp; try (with_reducible rfl))
      simp only [Act.put, List.setIfInBounds_toArray, List.set_cons_zero, List.set_cons_succ]
      refine wpAny_ready (rs := [5]) (by kernel_rfl) (by simp) ?_
      refine cons_op (by decide) (fun o ho K hK => ?_) ?_
      simp only [List.getElem?_toArray, List.getElem?_cons_succ, List.getElem?_cons_zero, Option.some.injEq] at ho
      subst ho
      refine step_append_eq (by rfl) _ _ 53 53 (by rfl) _ _ (by rfl) (by rfl) (append_mounts _ _) ?_
      refine hK _ _ ?_
      clear hK K
      simp only [Act.put, List.setIfInBounds_toArray, List.set_cons_zero, List.set_cons_succ]
      refine take_op (i := 6) (d := some 75) (v := ?v1006) rfl (by kernel_rfl) (by kernel_rfl) (by kernel_rfl) (fun _ _ _ h => h) (fun oi ho => ?hy1006) ?rest1006
      case hy1006 => (simp only [List.getElem?_toArray, List.getElem?_cons_succ, List.getElem?_cons_zero, Option.some.injEq] at ho; subst ho; refine Or.inl ⟨by rfl, fun w' => ?_⟩; go_simp; try (with_reducible rfl))
      simp only [Act.put, List.setIfInBounds_toArray, List.set_cons_zero, List.set_cons_succ]
      refine wpAny_ready (rs := [7]) (by kernel_rfl) (by simp) ?_
      refine cons_op (by decide) (fun o ho K hK => ?_) ?_
      simp only [List.getElem?_toArray, List.getElem?_cons_succ, List.getElem?_cons_zero, Option.some.injEq] at ho
      subst ho
      go_simp
      refine hK _ _ ?_
      clear hK K
      refine wpAny_done (by kernel_rfl) ?_ _
      rotate_left
      exact AllReady.nil
      exact AllReady.nil
      exact AllReady.nil
      exact AllReady.nil
      all_goals exact hkey
    case pf =>
      have HW9 := hide ((HW8.out.set 18 (.slice none 0 0) (tkL_set18 _ _ _)).ext (Ext.refl _).drew)
      change Exit.then _ _ _ _ (w9.setCell ⟨g + 1, 18, none⟩ (.slice none 0 0)).drew
      generalize (w9.setCell _ _).drew = w10 at *
      have HSL := hide HW9.out.sigs
      have HSG := hide (sig_size 0 0)
      have HCH := hide (sigchild_ok 0 (by omega) w10)
      clear HW8 t18 f18
      go_wp2_with ((with_reducible refine wpList_load_mid rfl 56 (.tmp 77) rfl (g + 1) 19 rfl (sigL 0 0) _ HSL.out Tryz.underlying56 rfl HSG.out ?_))
      refine HCH.out.mono ?_
      rintro e w11 ⟨rfl, hx11⟩
      have HW10 := hide (HW9.out.ext hx11)
      have HTS := hide HW10.out.thereS
      clear HSL HCH hx11 HW9
      go_upto_region 15 with ((with_reducible refine wpList_store_mid rfl 56 (.tmp 82) (.tmp 80) rfl (g + 1) 19 (sigA 0 0) rfl ?_ ?_ ?_ (sigA_one 0 0) ?_); (exact rfl); (exact HTS.out); (exact HSG.out))
      have HW11 := hide (HW10.out.sets 19 (sigL 0 0) (tkL_sig _ _ _))
      change Code.wp _ _ _ _ (w11.setCells (g + 1) 19 (sigL 0 0))
      generalize w11.setCells _ _ _ = w12 at *
      have r1 : w12.cell? ⟨g + 1, 1, none⟩ = some (.int .u32 0) := HW11.out.tb.cell 1
      have r2 : w12.cell? ⟨g + 1, 2, none⟩ = some (.int .u32 0) := HW11.out.tb.cell 2
      have r3 : w12.cell? ⟨g + 1, 3, none⟩ = some (.int .u32 0) := HW11.out.tb.cell 3
      have q1 := HW11.out.tb.frozen 1
      have q2 := HW11.out.tb.frozen 2
      have q3 := HW11.out.tb.frozen 3
      clear HW10 HTS
      go_upto_region 16 with fail
      have HW12 := hide (HW11.out.regs.ext (Ext.refl _).drew)
      clear r1 r2 r3 q1 q2 q3 HW11
      generalize ((w12.setCell _ _).setCell _ _).setCell _ _ = w13 at *
      have HLD := hide HW12.out.tb.all
      have HSZ := hide (ktask_size ((s.n : Int) + 1) (.slice A1 0 c1) (.slice A2 1 c2))
      have HTT := hide (HW12.out.k.thereT (s.n + 1) (by omega))
      have hb1 : (0 : Int) ≤ (s.n : Int) + 1 := by omega
      have hb2 : (s.n : Int) + 1 < 17 := by omega
      have HBO := hide (HW12.out.born hn1 hn)
      refine (fun (hkey : (?T2 : Prop)) => ?main2) ?pf2
      case main2 =>
        refine wp_region_any (by kernel_rfl) ?_
        try (change wpAny _ _ _ _ _ _ _ (World.drew _))
        refine take_op (i := 0) (d := some 92) (v := ?v2001) rfl (by kernel_rfl) (by kernel_rfl) (by kernel_rfl) (fun _ _ _ h => h) (fun oi ho => ?hy2001) ?rest2001
        case hy2001 => (simp only [List.getElem?_toArray, List.getElem?_cons_zero, Option.some.injEq] at ho; subst ho; refine Or.inl ⟨by rfl, fun w' => ?_⟩; go_simp; try (with_reducible rfl))
        simp only [Act.put, List.setIfInBounds_toArray, List.set_cons_zero, List.set_cons_succ]
        refine take_op (i := 1) (d := some 93) (v := ?v2002) rfl (by kernel_rfl) (by kernel_rfl) (by kernel_rfl) (fun _ _ _ h => h) (fun oi ho => ?hy2002) ?rest2002
        case hy2002 => (simp only [List.getElem?_toArray, List.getElem?_cons_succ, List.getElem?_cons_zero, Option.some.injEq] at ho; subst ho; refine Or.inl ⟨by rfl, fun w' => ?_⟩; go_simp; try (with_reducible rfl))
        simp only [Act.put, List.setIfInBounds_toArray, List.set_cons_zero, List.set_cons_succ]
        refine take_op (i := 3) (d := some 95) (v := ?v2003) rfl (by kernel_rfl) (by kernel_rfl) (by kernel_rfl) (fun _ _ _ h => h) (fun oi ho => ?hy2003) ?rest2003
        case hy2003 => (simp only [List.getElem?_toArray, List.getElem?_cons_succ, List.getElem?_cons_zero, Option.some.injEq] at ho; subst ho; refine Or.inl ⟨by rfl, fun w' => ?_⟩; go_simp; try (with_reducible rfl))
        simp only [Act.put, List.setIfInBounds_toArray, List.set_cons_zero, List.set_cons_succ]
        refine take_op (i := 4) (d := some 96) (v := ?v2004) rfl (by kernel_rfl) (by kernel_rfl) (by kernel_rfl) (fun _ _ _ h => h) (fun oi ho => ?hy2004) ?rest2004
        case hy2004 => (simp only [List.getElem?_toArray, List.getElem?_cons_succ, List.getElem?_cons_zero, Option.some.injEq] at ho; subst ho; refine Or.inl ⟨by rfl, fun w' => ?_⟩; go_simp; try (with_reducible rfl))
        simp only [Act.put, List.setIfInBounds_toArray, List.set_cons_zero, List.set_cons_succ]
        refine wpAny_ready (rs := [2]) (by kernel_rfl) (by simp) ?_
        refine cons_op (by decide) (fun o ho K hK => ?_) ?_
        simp only [List.getElem?_toArray, List.getElem?_cons_succ, List.getElem?_cons_zero, Option.some.injEq] at ho
        subst ho
        refine step_load_mid (by rfl) 58 (.tmp 5) (by rfl) (g + 1) 0 (by rfl) (tkL ((s.n : Int) + 1) (.slice A1 0 c1) (.slice A2 1 c2)) _ HLD.out Tryz.underlying58 rfl HSZ.out ?_
        refine hK _ _ ?_
        clear hK K
        simp only [Act.put, List.setIfInBounds_toArray, List.set_cons_zero, List.set_cons_succ]
        refine take_op (i := 5) (d := some 97) (v := ?v2005) rfl (by kernel_rfl) (by kernel_rfl) (by kernel_rfl) (fun _ _ _ h => h) (fun oi ho => ?hy2005) ?rest2005
        case hy2005 => (simp only [List.getElem?_toArray, List.getElem?_cons_succ, List.getElem?_cons_zero, Option.some.injEq] at ho; subst ho; refine Or.inl ⟨by rfl, fun w' => ?_⟩; go_simp; try (with_reducible rfl))
        simp only [Act.put, List.setIfInBounds_toArray, List.set_cons_zero, List.set_cons_succ]
        refine wpAny_ready (rs := [6]) (by kernel_rfl) (by simp) ?_
        refine cons_op (by decide) (fun o ho K hK => ?_) ?_
        simp only [List.getElem?_toArray, List.getElem?_cons_succ, List.getElem?_cons_zero, Option.some.injEq] at ho
        subst ho
        refine step_store_mid (by rfl) 58 (.tmp 97) (.tmp 94) (by rfl) H.hk (8 + (s.n + 1) * 38) (tkL ((s.n : Int) + 1) (.slice A1 0 c1) (.slice A2 1 c2)).toArray (by rfl) (by rfl) HTT.out HSZ.out (tkL_one _ _ _ _ _ _ _) ?_
        refine hK _ _ ?_
        clear hK K
        simp only [Act.put]
        refine wpAny_done (by kernel_rfl) ?_ _
        rotate_left
        exact AllReady.nil
        exact AllReady.nil
        all_goals exact hkey
      case pf2 =>
        change Exit.then _ _ _ _ (w13.drew.setCells H.hk (8 + (s.n + 1) * 38) (tkL ((s.n : Int) + 1) (.slice A1 0 c1) (.slice A2 1 c2)))
        have hnew := HW12.out.new
        clear HLD HSZ HTT HW12 HSG
        generalize w13.drew.setCells _ _ _ = w14 at *
        obtain ⟨hk14, hab, hkk, m, hm0, hm1, hr⟩ := HBO.out
        have HK14 := hide hk14
        have HAB := hide hab
        have HKK := hide hkk
        have HM := hide hm1
        have HRA := hide (radd_any hr (by omega) HK14.out.bw (s.n + 1) (by omega) (by omega))
        rw [show ((s.n + 1 : Nat) : Int) = (s.n : Int) + 1 from by omega] at HRA
        have c4 := hk14.hd 4 (by omega) (v := pV H.hr) rfl
        clear hk14 hab hkk hr HBO hm1
        go_wp2_with fail
        refine HRA.out.mono ?_
        rintro e w15 ⟨⟨z, rfl⟩, ⟨m', h0', h1', hr'⟩, hk15⟩
        have HB15 := hide (HK14.out.runned hk15 h0' (show m' ≤ s.n + 1 by have := HM.out; omega) hr')
        have HAB15 := hide (hk15.blk HAB.out (by decide) (by simp))
        have HKK15 := hide (HKK.out.trans (hk15.wide (Nat.le_refl _) (by simp) (by simp) (by simp)))
        have HTA := hide (HAB15.out.there_ 0 11 (by simp [ansL]))
        clear hr' hk15 HRA HK14 HAB HKK c4 h1'
        go_wp2_with ((with_reducible refine wpList_store_mid rfl 34 (.tmp 4) (.tmp 105) rfl g 0 (ansL 0 ((s.n : Int) + 1) 0).toArray rfl ?_ ?_ ?_ ?_ ?_); (exact rfl); (exact HTA.out); (exact ans_size 0 _ 0); (exact ans_one 0 _ 0))
        have HE1 := hide (HB15.out.answered HAB15.out (Nat.le_trans hbw hnew) (ansL 0 ((s.n : Int) + 1) 0))
        have HE2 := hide (HKK15.out.fresh hnew 0 (ansL 0 ((s.n : Int) + 1) 0))
        have HE3 := hide (HAB15.out.setAll (ansL 0 ((s.n : Int) + 1) 0) rfl)
        clear HB15 HAB15 HKK15 HTA
        change bodyPost _ _ _ _ _ (w15.setCells g 0 (ansL 0 ((s.n : Int) + 1) 0))
        generalize w15.setCells g 0 (ansL 0 ((s.n : Int) + 1) 0) = w16 at *
        exact ans_ret Tryz.f105 4 rfl rfl rfl HE3.out ⟨rfl, HE1.out, HE2.out⟩
end
end Go.Proofs.YthmojneobkaolaaGreatDoor

namespace Go.Proofs.YthmojneobkaolaaGreatDoor
open Go.RowKit
set_option linter.unusedVariables false

/-- A call: its number, and two numbers. -/
abbrev callL (num x y : Int) : List Value := [.int .i64 num, .int .i64 x, .int .i64 y, .int .i64 0, .string ByteArray.empty, .string ByteArray.empty, .slice none 0 0]
abbrev callV (num x y : Int) : Value := .agg (callL num x y).toArray
theorem call_zero : (Tryz.prog.info? 37).map (·.zero) = some (some (callV 0 0 0)) := by kernel_rfl
theorem call_size (num x y : Int) : (Tryz.prog.info? 37).map (·.size) = some (callL num x y).length := by
  show _ = some 7
  kernel_rfl
/-- A call of the kernel has been answered. -/
def Done (b : Nat) (H : Hn) (w : World) (P : Int → Int → Int → KSt → Prop) (e : Ending) (w' : World) : Prop :=
  ∃ er x y s', e = .returned (ansV er x y) ∧ P er x y s' ∧ KAt b w' H s' ∧ KKeep b H w w'
section
variable {b : Nat} {w w' : World} {H : Hn} {s : KSt}
set_option maxHeartbeats 8000000 in
set_option maxRecDepth 100000 in
theorem process_fork (h : KAt b w H s) (hn1 : 1 ≤ s.n) (hn : s.n ≤ 15) :
    Calls Tryz.prog 42 #[pV H.hk, .int .i64 1, callV 2 0 0] w (Done b H w fun er x y s' => er = 0 ∧ x = (s.n : Int) + 1 ∧ s' = s.born) := by
  have hx0 := (Ext.refl w).alloc (.cells (callL (2) (0) (0)).toArray 37)
  have hs0 : (w.alloc (.cells (callL (2) (0) (0)).toArray 37)).heap.size = w.heap.size + 1 := by simp
  have hxa := hx0.alloc (.cells (ansL 0 0 0).toArray 34)
  have hb0 := (Blk.new w 37 (callL (2) (0) (0)).toArray).ext ((Ext.refl _).alloc (.cells (ansL 0 0 0).toArray 34))
  have hba := Blk.new (w.alloc (.cells (callL (2) (0) (0)).toArray 37)) 34 (ansL 0 0 0).toArray
  rw [hs0] at hba
  have HB0 := hide hb0
  have HBA := hide hba
  have HX := hide hxa
  have HH := hide (h.ext hxa)
  have hbw := h.bw
  simp only [ansL] at HB0 HBA HX HH
  clear h hb0 hba hx0 hxa hs0
  go_enter Tryz.func42, Tryz.ntmps42
  go_upto_region 1 with fail
  obtain ⟨g, hg⟩ : ∃ g, w.heap.size = g := ⟨_, rfl⟩
  have hgw : w.heap.size ≤ g + 1 := by omega
  rw [hg] at HB0 HBA ⊢
  clear hg
  generalize (w.alloc _).alloc _ = W at *
  have HKX := hide (KeepL.of HX.out b kTs [] [H.bm])
  have c0 : W.cell? ⟨g, 0, none⟩ = some (.int .i64 (2)) := HB0.out.cell 0
  have c1 : W.cell? ⟨g, 1, none⟩ = some (.int .i64 (0)) := HB0.out.cell 1
  have c2 : W.cell? ⟨g, 2, none⟩ = some (.int .i64 (0)) := HB0.out.cell 2
  have HCK := hide (kfork_ok HH.out hn1 hn)
  go_wp2_with fail
  refine HCK.out.mono ?_
  rintro e w3 ⟨rfl, hh3, hk3⟩
  clear HCK
  have HH3 := hide hh3
  have HBA3 := hide (hk3.blk HBA.out (by decide) (by simp))
  have HK3 := hide (HKX.out.trans hk3)
  clear hh3 hk3 HBA HH HKX HX HB0 c0 c1 c2
  have HTA := hide (HBA3.out.there_ 0 11 (by simp))
  go_wp2_with ((with_reducible refine wpList_store_mid rfl 34 (.tmp 6) (.tmp 38) rfl (g + 1) 0 (ansL 0 ((s.n : Int) + 1) 0).toArray rfl ?_ ?_ ?_ ?_ ?_); (exact rfl); (exact HTA.out); (exact ans_size 0 ((s.n : Int) + 1) 0); (exact ans_one 0 ((s.n : Int) + 1) 0))
  have HE1 := hide (HH3.out.answered HBA3.out (Nat.le_trans hbw hgw) (ansL 0 ((s.n : Int) + 1) 0))
  have HE2 := hide (HK3.out.fresh hgw 0 (ansL 0 ((s.n : Int) + 1) 0))
  have HE3 := hide (HBA3.out.setAll (ansL 0 ((s.n : Int) + 1) 0) rfl)
  clear HH3 HK3 HBA3 HTA
  change bodyPost _ _ _ _ _ (w3.setCells (g + 1) 0 (ansL 0 ((s.n : Int) + 1) 0))
  generalize w3.setCells (g + 1) 0 (ansL 0 ((s.n : Int) + 1) 0) = w9 at *
  exact ans_ret Tryz.f42 6 rfl rfl rfl HE3.out ⟨_, _, _, _, rfl, ⟨rfl, rfl, rfl⟩, HE1.out, HE2.out⟩
set_option maxHeartbeats 8000000 in
set_option maxRecDepth 100000 in
theorem process_sleep (h : KAt b w H s) (p : Nat) (h1 : 2 ≤ p) (h2 : p ≤ s.n) (hn : s.n ≤ 16) (t : Nat) (ht1 : 1 ≤ t) (ht2 : t ≤ 900) (hnow : s.now ≤ 1000) (hT : Timely s.ls) (hl : s.ls.length ≤ 20) (hid : ∀ q ∈ s.ls, q.2 ≠ p) :
    Calls Tryz.prog 42 #[pV H.hk, .int .i64 (p : Int), callV 34 (t : Int) 0] w (Done b H w fun er x y s' => er = 0 ∧ ∃ i, Timely (s.timer i (s.now + t) p).ls ∧ s' = (s.timer i (s.now + t) p).slept p true) := by
  have hx0 := (Ext.refl w).alloc (.cells (callL (34) (t : Int) (0)).toArray 37)
  have hs0 : (w.alloc (.cells (callL (34) (t : Int) (0)).toArray 37)).heap.size = w.heap.size + 1 := by simp
  have hxa := hx0.alloc (.cells (ansL 0 0 0).toArray 34)
  have hb0 := (Blk.new w 37 (callL (34) (t : Int) (0)).toArray).ext ((Ext.refl _).alloc (.cells (ansL 0 0 0).toArray 34))
  have hba := Blk.new (w.alloc (.cells (callL (34) (t : Int) (0)).toArray 37)) 34 (ansL 0 0 0).toArray
  rw [hs0] at hba
  have HB0 := hide hb0
  have HBA := hide hba
  have HX := hide hxa
  have HH := hide (h.ext hxa)
  have hbw := h.bw
  simp only [ansL] at HB0 HBA HX HH
  clear h hb0 hba hx0 hxa hs0
  go_enter Tryz.func42, Tryz.ntmps42
  go_upto_region 1 with fail
  obtain ⟨g, hg⟩ : ∃ g, w.heap.size = g := ⟨_, rfl⟩
  have hgw : w.heap.size ≤ g + 1 := by omega
  rw [hg] at HB0 HBA ⊢
  clear hg
  generalize (w.alloc _).alloc _ = W at *
  have HKX := hide (KeepL.of HX.out b kTs [] [H.bm])
  have c0 : W.cell? ⟨g, 0, none⟩ = some (.int .i64 (34)) := HB0.out.cell 0
  have c1 : W.cell? ⟨g, 1, none⟩ = some (.int .i64 (t : Int)) := HB0.out.cell 1
  have c2 : W.cell? ⟨g, 2, none⟩ = some (.int .i64 (0)) := HB0.out.cell 2
  have hp17 : (p : Int) < 17 := by omega
  have HCK := hide (ksleep_ok HH.out p h1 h2 hn t ht1 ht2 hnow hT hl hid)
  go_wp2_with fail
  refine HCK.out.mono ?_
  rintro e w3 ⟨rfl, ⟨i, htm, hh3⟩, hk3⟩
  have HTM := hide htm
  clear HCK htm
  have HH3 := hide hh3
  have HBA3 := hide (hk3.blk HBA.out (by decide) (by simp))
  have HK3 := hide (HKX.out.trans hk3)
  clear hh3 hk3 HBA HH HKX HX HB0 c0 c1 c2
  have HFL := hide (fail_ok 0 w3)
  go_wp2_with fail
  refine HFL.out.mono ?_
  rintro e w4 ⟨rfl, hx4⟩
  replace HH3 := hide (HH3.out.ext hx4)
  replace HBA3 := hide (HBA3.out.ext hx4)
  replace HK3 := hide (HK3.out.trans (KeepL.of hx4 _ _ _ _))
  clear hx4 HFL
  have HTA := hide (HBA3.out.there_ 0 11 (by simp))
  go_wp2_with ((with_reducible refine wpList_store_mid rfl 34 (.tmp 6) (.tmp 184) rfl (g + 1) 0 (ansL 0 0 0).toArray rfl ?_ ?_ ?_ ?_ ?_); (exact rfl); (exact HTA.out); (exact ans_size 0 0 0); (exact ans_one 0 0 0))
  have HE1 := hide (HH3.out.answered HBA3.out (Nat.le_trans hbw hgw) (ansL 0 0 0))
  have HE2 := hide (HK3.out.fresh hgw 0 (ansL 0 0 0))
  have HE3 := hide (HBA3.out.setAll (ansL 0 0 0) rfl)
  clear HH3 HK3 HBA3 HTA
  change bodyPost _ _ _ _ _ (w4.setCells (g + 1) 0 (ansL 0 0 0))
  generalize w4.setCells (g + 1) 0 (ansL 0 0 0) = w9 at *
  exact ans_ret Tryz.f42 6 rfl rfl rfl HE3.out ⟨_, _, _, _, rfl, ⟨rfl, i, HTM.out, rfl⟩, HE1.out, HE2.out⟩
set_option maxHeartbeats 8000000 in
set_option maxRecDepth 100000 in
theorem process_pid (h : KAt b w H s) (p : Nat) (h1 : 1 ≤ p) (h2 : p ≤ s.n) (hn : s.n ≤ 16) :
    Calls Tryz.prog 42 #[pV H.hk, .int .i64 (p : Int), callV 30 0 0] w (Done b H w fun er x y s' => er = 0 ∧ s' = s) := by
  have hx0 := (Ext.refl w).alloc (.cells (callL (30) (0) (0)).toArray 37)
  have hs0 : (w.alloc (.cells (callL (30) (0) (0)).toArray 37)).heap.size = w.heap.size + 1 := by simp
  have hxa := hx0.alloc (.cells (ansL 0 0 0).toArray 34)
  have hb0 := (Blk.new w 37 (callL (30) (0) (0)).toArray).ext ((Ext.refl _).alloc (.cells (ansL 0 0 0).toArray 34))
  have hba := Blk.new (w.alloc (.cells (callL (30) (0) (0)).toArray 37)) 34 (ansL 0 0 0).toArray
  rw [hs0] at hba
  have HB0 := hide hb0
  have HBA := hide hba
  have HX := hide hxa
  have HH := hide (h.ext hxa)
  have hbw := h.bw
  simp only [ansL] at HB0 HBA HX HH
  clear h hb0 hba hx0 hxa hs0
  go_enter Tryz.func42, Tryz.ntmps42
  go_upto_region 1 with fail
  obtain ⟨g, hg⟩ : ∃ g, w.heap.size = g := ⟨_, rfl⟩
  have hgw : w.heap.size ≤ g + 1 := by omega
  rw [hg] at HB0 HBA ⊢
  clear hg
  generalize (w.alloc _).alloc _ = W at *
  have HKX := hide (KeepL.of HX.out b kTs [] [H.bm])
  have c0 : W.cell? ⟨g, 0, none⟩ = some (.int .i64 (30)) := HB0.out.cell 0
  have c1 : W.cell? ⟨g, 1, none⟩ = some (.int .i64 (0)) := HB0.out.cell 1
  have c2 : W.cell? ⟨g, 2, none⟩ = some (.int .i64 (0)) := HB0.out.cell 2
  have hp17 : (p : Int) < 17 := by omega
  have HCK := hide (parent_ok HH.out.proc p h1 h2 hn)
  have c7 := HH.out.hd 7 (by omega) (v := pV H.hp) rfl
  go_wp2_with fail
  refine HCK.out.mono ?_
  rintro e w3 ⟨⟨k, rfl⟩, rfl⟩
  clear HCK c7
  have HH3 := HH
  have HBA3 := HBA
  have HK3 := HKX
  clear HBA HH HKX HX HB0 c0 c1 c2
  have HTA := hide (HBA3.out.there_ 0 11 (by simp))
  go_wp2_with ((with_reducible refine wpList_store_mid rfl 34 (.tmp 6) (.tmp 176) rfl (g + 1) 0 (ansL 0 (p : Int) k).toArray rfl ?_ ?_ ?_ ?_ ?_); (exact rfl); (exact HTA.out); (exact ans_size 0 (p : Int) k); (exact ans_one 0 (p : Int) k))
  have HE1 := hide (HH3.out.answered HBA3.out (Nat.le_trans hbw hgw) (ansL 0 (p : Int) k))
  have HE2 := hide (HK3.out.fresh hgw 0 (ansL 0 (p : Int) k))
  have HE3 := hide (HBA3.out.setAll (ansL 0 (p : Int) k) rfl)
  clear HH3 HK3 HBA3 HTA
  change bodyPost _ _ _ _ _ (W.setCells (g + 1) 0 (ansL 0 (p : Int) k))
  generalize W.setCells (g + 1) 0 (ansL 0 (p : Int) k) = w9 at *
  exact ans_ret Tryz.f42 6 rfl rfl rfl HE3.out ⟨_, _, _, _, rfl, ⟨rfl, rfl⟩, HE1.out, HE2.out⟩
set_option maxHeartbeats 8000000 in
set_option maxRecDepth 100000 in
theorem process_kill (h : KAt b w H s) (h2 : 2 ≤ s.n) (hn : s.n ≤ 16) (hsg : s.sg 2 = (0, 64)) (hzz : s.zz 2 = true) (hl : s.ls.length ≤ 20) :
    Calls Tryz.prog 42 #[pV H.hk, .int .i64 1, callV 20 2 3] w (Done b H w fun er x y s' => er = 0 ∧ ∃ ls, s' = { (s.sig 2 (8, 64)).slept 2 false with ls := ls }) := by
  have hx0 := (Ext.refl w).alloc (.cells (callL (20) (2) (3)).toArray 37)
  have hs0 : (w.alloc (.cells (callL (20) (2) (3)).toArray 37)).heap.size = w.heap.size + 1 := by simp
  have hxa := hx0.alloc (.cells (ansL 0 0 0).toArray 34)
  have hb0 := (Blk.new w 37 (callL (20) (2) (3)).toArray).ext ((Ext.refl _).alloc (.cells (ansL 0 0 0).toArray 34))
  have hba := Blk.new (w.alloc (.cells (callL (20) (2) (3)).toArray 37)) 34 (ansL 0 0 0).toArray
  rw [hs0] at hba
  have HB0 := hide hb0
  have HBA := hide hba
  have HX := hide hxa
  have HH := hide (h.ext hxa)
  have hbw := h.bw
  simp only [ansL] at HB0 HBA HX HH
  clear h hb0 hba hx0 hxa hs0
  go_enter Tryz.func42, Tryz.ntmps42
  go_upto_region 1 with fail
  obtain ⟨g, hg⟩ : ∃ g, w.heap.size = g := ⟨_, rfl⟩
  have hgw : w.heap.size ≤ g + 1 := by omega
  rw [hg] at HB0 HBA ⊢
  clear hg
  generalize (w.alloc _).alloc _ = W at *
  have HKX := hide (KeepL.of HX.out b kTs [] [H.bm])
  have c0 : W.cell? ⟨g, 0, none⟩ = some (.int .i64 (20)) := HB0.out.cell 0
  have c1 : W.cell? ⟨g, 1, none⟩ = some (.int .i64 (2)) := HB0.out.cell 1
  have c2 : W.cell? ⟨g, 2, none⟩ = some (.int .i64 (3)) := HB0.out.cell 2
  have HCK := hide (kkill_ok HH.out h2 hn hsg hzz hl)
  go_wp2_with fail
  refine HCK.out.mono ?_
  rintro e w3 ⟨rfl, ⟨ls, hh3⟩, hk3⟩
  clear HCK
  have HH3 := hide hh3
  have HBA3 := hide (hk3.blk HBA.out (by decide) (by simp))
  have HK3 := hide (HKX.out.trans hk3)
  clear hh3 hk3 HBA HH HKX HX HB0 c0 c1 c2
  have HFL := hide (fail_ok 0 w3)
  go_wp2_with fail
  refine HFL.out.mono ?_
  rintro e w4 ⟨rfl, hx4⟩
  replace HH3 := hide (HH3.out.ext hx4)
  replace HBA3 := hide (HBA3.out.ext hx4)
  replace HK3 := hide (HK3.out.trans (KeepL.of hx4 _ _ _ _))
  clear hx4 HFL
  have HTA := hide (HBA3.out.there_ 0 11 (by simp))
  go_wp2_with ((with_reducible refine wpList_store_mid rfl 34 (.tmp 6) (.tmp 72) rfl (g + 1) 0 (ansL 0 0 0).toArray rfl ?_ ?_ ?_ ?_ ?_); (exact rfl); (exact HTA.out); (exact ans_size 0 0 0); (exact ans_one 0 0 0))
  have HE1 := hide (HH3.out.answered HBA3.out (Nat.le_trans hbw hgw) (ansL 0 0 0))
  have HE2 := hide (HK3.out.fresh hgw 0 (ansL 0 0 0))
  have HE3 := hide (HBA3.out.setAll (ansL 0 0 0) rfl)
  clear HH3 HK3 HBA3 HTA
  change bodyPost _ _ _ _ _ (w4.setCells (g + 1) 0 (ansL 0 0 0))
  generalize w4.setCells (g + 1) 0 (ansL 0 0 0) = w9 at *
  exact ans_ret Tryz.f42 6 rfl rfl rfl HE3.out ⟨_, _, _, _, rfl, ⟨rfl, ls, rfl⟩, HE1.out, HE2.out⟩
set_option maxHeartbeats 8000000 in
set_option maxRecDepth 100000 in
theorem process_handle (h : KAt b w H s) (h2 : 2 ≤ s.n) (hn : s.n ≤ 16) (hsg : s.sg 2 = (0, 0)) :
    Calls Tryz.prog 42 #[pV H.hk, .int .i64 2, callV 22 3 64] w (Done b H w fun er x y s' => er = 0 ∧ s' = s.sig 2 (0, 64)) := by
  have hx0 := (Ext.refl w).alloc (.cells (callL (22) (3) (64)).toArray 37)
  have hs0 : (w.alloc (.cells (callL (22) (3) (64)).toArray 37)).heap.size = w.heap.size + 1 := by simp
  have hxa := hx0.alloc (.cells (ansL 0 0 0).toArray 34)
  have hb0 := (Blk.new w 37 (callL (22) (3) (64)).toArray).ext ((Ext.refl _).alloc (.cells (ansL 0 0 0).toArray 34))
  have hba := Blk.new (w.alloc (.cells (callL (22) (3) (64)).toArray 37)) 34 (ansL 0 0 0).toArray
  rw [hs0] at hba
  have HB0 := hide hb0
  have HBA := hide hba
  have HX := hide hxa
  have HH := hide (h.ext hxa)
  have hbw := h.bw
  simp only [ansL] at HB0 HBA HX HH
  clear h hb0 hba hx0 hxa hs0
  go_enter Tryz.func42, Tryz.ntmps42
  go_upto_region 1 with fail
  obtain ⟨g, hg⟩ : ∃ g, w.heap.size = g := ⟨_, rfl⟩
  have hgw : w.heap.size ≤ g + 1 := by omega
  rw [hg] at HB0 HBA ⊢
  clear hg
  generalize (w.alloc _).alloc _ = W at *
  have HKX := hide (KeepL.of HX.out b kTs [] [H.bm])
  have c0 : W.cell? ⟨g, 0, none⟩ = some (.int .i64 (22)) := HB0.out.cell 0
  have c1 : W.cell? ⟨g, 1, none⟩ = some (.int .i64 (3)) := HB0.out.cell 1
  have c2 : W.cell? ⟨g, 2, none⟩ = some (.int .i64 (64)) := HB0.out.cell 2
  have HSR := hide (HH.out.sigR 2 (by omega) h2 hn)
  rw [hsg] at HSR
  replace HSR : Hid (W.rangeAt H.hk 103 (sigL 0 0)) := HSR
  have HSZ := hide (sig_size 0 0)
  have HCH := hide sighandle_ok
  have hSx : ∀ w w', Ext w w' → (w.rangeAt H.hk 103 (sigL 0 0) ∧ w.cell? ⟨g, 1, none⟩ = some (.int .i64 3) ∧ w.cell? ⟨g, 2, none⟩ = some (.int .i64 64)) → (w'.rangeAt H.hk 103 (sigL 0 0) ∧ w'.cell? ⟨g, 1, none⟩ = some (.int .i64 3) ∧ w'.cell? ⟨g, 2, none⟩ = some (.int .i64 64)) := fun w w' hx h => ⟨fun j v hv => hx.cell (h.1 j v hv), hx.cell h.2.1, hx.cell h.2.2⟩
  go_upto_region 18 with fail
  refine (fun (hkey : (?T : Prop)) => ?main) ?pf
  case main =>
    refine begin_held (fun w => w.rangeAt H.hk 103 (sigL 0 0) ∧ w.cell? ⟨g, 1, none⟩ = some (.int .i64 3) ∧ w.cell? ⟨g, 2, none⟩ = some (.int .i64 64)) (by kernel_rfl) ?_
    have hS0 : (fun w => w.rangeAt H.hk 103 (sigL 0 0) ∧ w.cell? ⟨g, 1, none⟩ = some (.int .i64 3) ∧ w.cell? ⟨g, 2, none⟩ = some (.int .i64 64)) (W.drew) := by exact hSx W W.drew (Ext.refl W).drew ⟨HSR.out, c1, c2⟩
    have HE := hide (Ext.refl W).drew
    generalize W.drew = Wd at HE hS0 ⊢
    refine takeH_op (i := 0) (d := some 93) (v := ?v1001) hS0 rfl (by kernel_rfl) (by kernel_rfl) (by kernel_rfl) (fun _ _ _ h => h) (fun oi ho => ?hy1001) ?rest1001
    case hy1001 => (simp only [List.getElem?_toArray, List.getElem?_cons_zero, Option.some.injEq] at ho; subst ho; refine Or.inl ⟨by rfl, fun w' _ => ?_⟩; go_simp; try (with_reducible rfl))
    simp only [Act.put, List.setIfInBounds_toArray, List.set_cons_zero, List.set_cons_succ]
    refine takeH_op (i := 1) (d := some 94) (v := ?v1002) hS0 rfl (by kernel_rfl) (by kernel_rfl) (by kernel_rfl) (fun _ _ _ h => h) (fun oi ho => ?hy1002) ?rest1002
    case hy1002 => (simp only [List.getElem?_toArray, List.getElem?_cons_succ, List.getElem?_cons_zero, Option.some.injEq] at ho; subst ho; refine Or.inl ⟨by rfl, fun w' _ => ?_⟩; go_simp; try (with_reducible rfl))
    simp only [Act.put, List.setIfInBounds_toArray, List.set_cons_zero, List.set_cons_succ]
    refine takeH_op (i := 2) (d := some 95) (v := ?v1003) hS0 rfl (by kernel_rfl) (by kernel_rfl) (by kernel_rfl) (fun _ _ _ h => h) (fun oi ho => ?hy1003) ?rest1003
    case hy1003 => (simp only [List.getElem?_toArray, List.getElem?_cons_succ, List.getElem?_cons_zero, Option.some.injEq] at ho; subst ho; refine Or.inl ⟨by rfl, fun w' _ => ?_⟩; go_simp; try (with_reducible rfl))
    simp only [Act.put, List.setIfInBounds_toArray, List.set_cons_zero, List.set_cons_succ]
    refine takeH_op (i := 3) (d := some 96) (v := ?v1004) hS0 rfl (by kernel_rfl) (by kernel_rfl) (by kernel_rfl) (fun _ _ _ h => h) (fun oi ho => ?hy1004) ?rest1004
    case hy1004 => (simp only [List.getElem?_toArray, List.getElem?_cons_succ, List.getElem?_cons_zero, Option.some.injEq] at ho; subst ho; refine held_load_mid ?_ 56 (.tmp 95) ?_ H.hk 103 ?_ (sigL 0 0) _ ?_ Tryz.underlying56 ?_ HSZ.out; rfl; rfl; rfl; exact fun w h => h.1; rfl)
    simp only [Act.put, List.setIfInBounds_toArray, List.set_cons_zero, List.set_cons_succ]
    refine takeH_op (i := 4) (d := some 97) (v := ?v1005) hS0 rfl (by kernel_rfl) (by kernel_rfl) (by kernel_rfl) (fun _ _ _ h => h) (fun oi ho => ?hy1005) ?rest1005
    case hy1005 => (simp only [List.getElem?_toArray, List.getElem?_cons_succ, List.getElem?_cons_zero, Option.some.injEq] at ho; subst ho; refine Or.inl ⟨by rfl, fun w' _ => ?_⟩; go_simp; try (with_reducible rfl))
    simp only [Act.put, List.setIfInBounds_toArray, List.set_cons_zero, List.set_cons_succ]
    refine takeH_op (i := 5) (d := some 98) (v := ?v1006) hS0 rfl (by kernel_rfl) (by kernel_rfl) (by kernel_rfl) (fun _ _ _ h => h) (fun oi ho => ?hy1006) ?rest1006
    case hy1006 => (simp only [List.getElem?_toArray, List.getElem?_cons_succ, List.getElem?_cons_zero, Option.some.injEq] at ho; subst ho; refine Or.inl ⟨by rfl, fun w' hS' => ?_⟩; obtain ⟨_, k1, k2⟩ := hS'; go_simp; try (with_reducible rfl))
    simp only [Act.put, List.setIfInBounds_toArray, List.set_cons_zero, List.set_cons_succ]
    refine takeH_op (i := 6) (d := some 99) (v := ?v1007) hS0 rfl (by kernel_rfl) (by kernel_rfl) (by kernel_rfl) (fun _ _ _ h => h) (fun oi ho => ?hy1007) ?rest1007
    case hy1007 => (simp only [List.getElem?_toArray, List.getElem?_cons_succ, List.getElem?_cons_zero, Option.some.injEq] at ho; subst ho; refine Or.inl ⟨by rfl, fun w' _ => ?_⟩; go_simp; try (with_reducible rfl))
    simp only [Act.put, List.setIfInBounds_toArray, List.set_cons_zero, List.set_cons_succ]
    refine takeH_op (i := 7) (d := some 100) (v := ?v1008) hS0 rfl (by kernel_rfl) (by kernel_rfl) (by kernel_rfl) (fun _ _ _ h => h) (fun oi ho => ?hy1008) ?rest1008
    case hy1008 => (simp only [List.getElem?_toArray, List.getElem?_cons_succ, List.getElem?_cons_zero, Option.some.injEq] at ho; subst ho; refine Or.inl ⟨by rfl, fun w' hS' => ?_⟩; obtain ⟨_, k1, k2⟩ := hS'; go_simp; try (with_reducible rfl))
    simp only [Act.put, List.setIfInBounds_toArray, List.set_cons_zero, List.set_cons_succ]
    refine readyH (rs := [8, 12]) (by kernel_rfl) (by simp) ?_
    refine consH_op (by decide) (fun o ho K hK => ?_) ?_
    simp only [List.getElem?_toArray, List.getElem?_cons_succ, List.getElem?_cons_zero, Option.some.injEq] at ho
    subst ho
    (go_simp; refine (HCH.out _).mono ?_; rintro e w5 ⟨rfl, hx5⟩; dsimp only)
    have hS1009 : (fun w => w.rangeAt H.hk 103 (sigL 0 0) ∧ w.cell? ⟨g, 1, none⟩ = some (.int .i64 3) ∧ w.cell? ⟨g, 2, none⟩ = some (.int .i64 64)) (w5) := by exact hSx W _ (HE.out.trans hx5) ⟨HSR.out, c1, c2⟩
    refine hK _ _ hS1009 ?_
    clear hK K
    try (simp only [Act.put, List.setIfInBounds_toArray, List.set_cons_zero, List.set_cons_succ])
    replace HE := hide (HE.out.trans hx5)
    try replace HN := hide (HN.out.ext hx5)
    refine takeH_op (i := 9) (d := some 92) (v := ?v1010) hS1009 rfl (by kernel_rfl) (by kernel_rfl) (by kernel_rfl) (fun _ _ _ h => h) (fun oi ho => ?hy1010) ?rest1010
    case hy1010 => (simp only [List.getElem?_toArray, List.getElem?_cons_succ, List.getElem?_cons_zero, Option.some.injEq] at ho; subst ho; refine Or.inl ⟨by rfl, fun w' _ => ?_⟩; go_simp; try (with_reducible rfl))
    simp only [Act.put, List.setIfInBounds_toArray, List.set_cons_zero, List.set_cons_succ]
    refine takeH_op (i := 10) (d := some 102) (v := ?v1011) hS1009 rfl (by kernel_rfl) (by kernel_rfl) (by kernel_rfl) (fun _ _ _ h => h) (fun oi ho => ?hy1011) ?rest1011
    case hy1011 => (simp only [List.getElem?_toArray, List.getElem?_cons_succ, List.getElem?_cons_zero, Option.some.injEq] at ho; subst ho; refine Or.inl ⟨by rfl, fun w' _ => ?_⟩; go_simp; try (with_reducible rfl))
    simp only [Act.put, List.setIfInBounds_toArray, List.set_cons_zero, List.set_cons_succ]
    refine takeH_op (i := 11) (d := some 103) (v := ?v1012) hS1009 rfl (by kernel_rfl) (by kernel_rfl) (by kernel_rfl) (fun _ _ _ h => h) (fun oi ho => ?hy1012) ?rest1012
    case hy1012 => (simp only [List.getElem?_toArray, List.getElem?_cons_succ, List.getElem?_cons_zero, Option.some.injEq] at ho; subst ho; refine Or.inl ⟨by rfl, fun w' _ => ?_⟩; go_simp; try (with_reducible rfl))
    simp only [Act.put, List.setIfInBounds_toArray, List.set_cons_zero, List.set_cons_succ]
    refine readyH (rs := [12]) (by kernel_rfl) (by simp) ?_
    refine consH_op (by decide) (fun o ho K hK => ?_) ?_
    simp only [List.getElem?_toArray, List.getElem?_cons_succ, List.getElem?_cons_zero, Option.some.injEq] at ho
    subst ho
    go_simp
    have hS1013 : (fun w => w.rangeAt H.hk 103 (sigL 0 0) ∧ w.cell? ⟨g, 1, none⟩ = some (.int .i64 3) ∧ w.cell? ⟨g, 2, none⟩ = some (.int .i64 64)) ((w5.alloc (.cells #[.int .i64 0, .int .i64 0, .int .i64 0, .int .i64 0, .int .i64 0, .int .i64 0, .int .i64 0, .int .i64 0, .int .i64 0, .int .i64 0, .int .i64 0, .int .i64 0, .int .i64 0, .int .i64 0, .int .i64 0, .int .i64 0, .int .i64 0, .int .i64 0] 56))) := by exact hSx W _ (HE.out.alloc _) ⟨HSR.out, c1, c2⟩
    refine hK _ _ hS1013 ?_
    clear hK K
    have HN := hide (Blk.new (w5) 56 #[.int .i64 0, .int .i64 0, .int .i64 0, .int .i64 0, .int .i64 0, .int .i64 0, .int .i64 0, .int .i64 0, .int .i64 0, .int .i64 0, .int .i64 0, .int .i64 0, .int .i64 0, .int .i64 0, .int .i64 0, .int .i64 0, .int .i64 0, .int .i64 0])
    have HG := hide (show W.heap.size ≤ (w5).heap.size from HE.out.size)
    replace HE := hide (HE.out.alloc (.cells #[.int .i64 0, .int .i64 0, .int .i64 0, .int .i64 0, .int .i64 0, .int .i64 0, .int .i64 0, .int .i64 0, .int .i64 0, .int .i64 0, .int .i64 0, .int .i64 0, .int .i64 0, .int .i64 0, .int .i64 0, .int .i64 0, .int .i64 0, .int .i64 0] 56))
    obtain ⟨g7, hg7⟩ : ∃ x, (w5).heap.size = x := ⟨_, rfl⟩
    rw [hg7] at HN HG ⊢
    refine readyH (rs := [13]) (by kernel_rfl) (by simp) ?_
    refine consH_op (by decide) (fun o ho K hK => ?_) ?_
    simp only [List.getElem?_toArray, List.getElem?_cons_succ, List.getElem?_cons_zero, Option.some.injEq] at ho
    subst ho
    refine step_store_mid (by rfl) 56 (.tmp 13) (.tmp 102) (by rfl) g7 0 (sigA 0 64) (by rfl) (by rfl) (HN.out.there_ 0 18 (Nat.le_refl _)) (sig_size 0 64) (sigA_one 0 64) ?_
    have hS1014 : (fun w => w.rangeAt H.hk 103 (sigL 0 0) ∧ w.cell? ⟨g, 1, none⟩ = some (.int .i64 3) ∧ w.cell? ⟨g, 2, none⟩ = some (.int .i64 64)) (((w5.alloc (.cells #[.int .i64 0, .int .i64 0, .int .i64 0, .int .i64 0, .int .i64 0, .int .i64 0, .int .i64 0, .int .i64 0, .int .i64 0, .int .i64 0, .int .i64 0, .int .i64 0, .int .i64 0, .int .i64 0, .int .i64 0, .int .i64 0, .int .i64 0, .int .i64 0] 56)).setCells g7 0 (sigA 0 64).toList)) := by exact hSx W _ (HE.out.setCells HG.out 0 _) ⟨HSR.out, c1, c2⟩
    refine hK _ _ hS1014 ?_
    clear hK K
    try (simp only [Act.put])
    have HN3 := hide (HN.out.setAll (sigA 0 64).toList rfl)
    have HE3 := hide (HE.out.setCells HG.out 0 (sigA 0 64).toList)
    refine takeH_op (i := 14) (d := some 14) (v := ?v1015) hS1014 rfl (by kernel_rfl) (by kernel_rfl) (by kernel_rfl) (fun _ _ _ h => h) (fun oi ho => ?hy1015) ?rest1015
    case hy1015 => (simp only [List.getElem?_toArray, List.getElem?_cons_succ, List.getElem?_cons_zero, Option.some.injEq] at ho; subst ho; refine Or.inl ⟨by rfl, fun w' _ => ?_⟩; go_simp; try (with_reducible rfl))
    simp only [Act.put, List.setIfInBounds_toArray, List.set_cons_zero, List.set_cons_succ]
    refine wpAnyH_done (by kernel_rfl) ?_ _
    generalize ((w5.alloc (.cells #[.int .i64 0, .int .i64 0, .int .i64 0, .int .i64 0, .int .i64 0, .int .i64 0, .int .i64 0, .int .i64 0, .int .i64 0, .int .i64 0, .int .i64 0, .int .i64 0, .int .i64 0, .int .i64 0, .int .i64 0, .int .i64 0, .int .i64 0, .int .i64 0] 56)).setCells g7 0 (sigA 0 64).toList) = w7 at HE3 HN3 ⊢
    generalize g7 = g8 at HE3 HN3 ⊢
    revert HN3 HE3
    revert w7
    revert g8
    exact hkey
    exact allH_nil
    exact allH_nil
    refine consH_op (by decide) (fun o ho K hK => ?_) ?_
    simp only [List.getElem?_toArray, List.getElem?_cons_succ, List.getElem?_cons_zero, Option.some.injEq] at ho
    subst ho
    go_simp
    have hS1016 : (fun w => w.rangeAt H.hk 103 (sigL 0 0) ∧ w.cell? ⟨g, 1, none⟩ = some (.int .i64 3) ∧ w.cell? ⟨g, 2, none⟩ = some (.int .i64 64)) ((Wd.alloc (.cells #[.int .i64 0, .int .i64 0, .int .i64 0, .int .i64 0, .int .i64 0, .int .i64 0, .int .i64 0, .int .i64 0, .int .i64 0, .int .i64 0, .int .i64 0, .int .i64 0, .int .i64 0, .int .i64 0, .int .i64 0, .int .i64 0, .int .i64 0, .int .i64 0] 56))) := by exact hSx W _ (HE.out.alloc _) ⟨HSR.out, c1, c2⟩
    refine hK _ _ hS1016 ?_
    clear hK K
    have HN := hide (Blk.new (Wd) 56 #[.int .i64 0, .int .i64 0, .int .i64 0, .int .i64 0, .int .i64 0, .int .i64 0, .int .i64 0, .int .i64 0, .int .i64 0, .int .i64 0, .int .i64 0, .int .i64 0, .int .i64 0, .int .i64 0, .int .i64 0, .int .i64 0, .int .i64 0, .int .i64 0])
    have HG := hide (show W.heap.size ≤ (Wd).heap.size from HE.out.size)
    replace HE := hide (HE.out.alloc (.cells #[.int .i64 0, .int .i64 0, .int .i64 0, .int .i64 0, .int .i64 0, .int .i64 0, .int .i64 0, .int .i64 0, .int .i64 0, .int .i64 0, .int .i64 0, .int .i64 0, .int .i64 0, .int .i64 0, .int .i64 0, .int .i64 0, .int .i64 0, .int .i64 0] 56))
    obtain ⟨g7, hg7⟩ : ∃ x, (Wd).heap.size = x := ⟨_, rfl⟩
    rw [hg7] at HN HG ⊢
    refine readyH (rs := [8]) (by kernel_rfl) (by simp) ?_
    refine consH_op (by decide) (fun o ho K hK => ?_) ?_
    simp only [List.getElem?_toArray, List.getElem?_cons_succ, List.getElem?_cons_zero, Option.some.injEq] at ho
    subst ho
    (go_simp; refine (HCH.out _).mono ?_; rintro e w5 ⟨rfl, hx5⟩; dsimp only)
    have hS1017 : (fun w => w.rangeAt H.hk 103 (sigL 0 0) ∧ w.cell? ⟨g, 1, none⟩ = some (.int .i64 3) ∧ w.cell? ⟨g, 2, none⟩ = some (.int .i64 64)) (w5) := by exact hSx W _ (HE.out.trans hx5) ⟨HSR.out, c1, c2⟩
    refine hK _ _ hS1017 ?_
    clear hK K
    try (simp only [Act.put, List.setIfInBounds_toArray, List.set_cons_zero, List.set_cons_succ])
    replace HE := hide (HE.out.trans hx5)
    try replace HN := hide (HN.out.ext hx5)
    refine takeH_op (i := 9) (d := some 92) (v := ?v1018) hS1017 rfl (by kernel_rfl) (by kernel_rfl) (by kernel_rfl) (fun _ _ _ h => h) (fun oi ho => ?hy1018) ?rest1018
    case hy1018 => (simp only [List.getElem?_toArray, List.getElem?_cons_succ, List.getElem?_cons_zero, Option.some.injEq] at ho; subst ho; refine Or.inl ⟨by rfl, fun w' _ => ?_⟩; go_simp; try (with_reducible rfl))
    simp only [Act.put, List.setIfInBounds_toArray, List.set_cons_zero, List.set_cons_succ]
    refine takeH_op (i := 10) (d := some 102) (v := ?v1019) hS1017 rfl (by kernel_rfl) (by kernel_rfl) (by kernel_rfl) (fun _ _ _ h => h) (fun oi ho => ?hy1019) ?rest1019
    case hy1019 => (simp only [List.getElem?_toArray, List.getElem?_cons_succ, List.getElem?_cons_zero, Option.some.injEq] at ho; subst ho; refine Or.inl ⟨by rfl, fun w' _ => ?_⟩; go_simp; try (with_reducible rfl))
    simp only [Act.put, List.setIfInBounds_toArray, List.set_cons_zero, List.set_cons_succ]
    refine takeH_op (i := 11) (d := some 103) (v := ?v1020) hS1017 rfl (by kernel_rfl) (by kernel_rfl) (by kernel_rfl) (fun _ _ _ h => h) (fun oi ho => ?hy1020) ?rest1020
    case hy1020 => (simp only [List.getElem?_toArray, List.getElem?_cons_succ, List.getElem?_cons_zero, Option.some.injEq] at ho; subst ho; refine Or.inl ⟨by rfl, fun w' _ => ?_⟩; go_simp; try (with_reducible rfl))
    simp only [Act.put, List.setIfInBounds_toArray, List.set_cons_zero, List.set_cons_succ]
    refine readyH (rs := [13]) (by kernel_rfl) (by simp) ?_
    refine consH_op (by decide) (fun o ho K hK => ?_) ?_
    simp only [List.getElem?_toArray, List.getElem?_cons_succ, List.getElem?_cons_zero, Option.some.injEq] at ho
    subst ho
    refine step_store_mid (by rfl) 56 (.tmp 13) (.tmp 102) (by rfl) g7 0 (sigA 0 64) (by rfl) (by rfl) (HN.out.there_ 0 18 (Nat.le_refl _)) (sig_size 0 64) (sigA_one 0 64) ?_
    have hS1021 : (fun w => w.rangeAt H.hk 103 (sigL 0 0) ∧ w.cell? ⟨g, 1, none⟩ = some (.int .i64 3) ∧ w.cell? ⟨g, 2, none⟩ = some (.int .i64 64)) ((w5.setCells g7 0 (sigA 0 64).toList)) := by exact hSx W _ (HE.out.setCells HG.out 0 _) ⟨HSR.out, c1, c2⟩
    refine hK _ _ hS1021 ?_
    clear hK K
    try (simp only [Act.put])
    have HN3 := hide (HN.out.setAll (sigA 0 64).toList rfl)
    have HE3 := hide (HE.out.setCells HG.out 0 (sigA 0 64).toList)
    refine takeH_op (i := 14) (d := some 14) (v := ?v1022) hS1021 rfl (by kernel_rfl) (by kernel_rfl) (by kernel_rfl) (fun _ _ _ h => h) (fun oi ho => ?hy1022) ?rest1022
    case hy1022 => (simp only [List.getElem?_toArray, List.getElem?_cons_succ, List.getElem?_cons_zero, Option.some.injEq] at ho; subst ho; refine Or.inl ⟨by rfl, fun w' _ => ?_⟩; go_simp; try (with_reducible rfl))
    simp only [Act.put, List.setIfInBounds_toArray, List.set_cons_zero, List.set_cons_succ]
    refine wpAnyH_done (by kernel_rfl) ?_ _
    generalize (w5.setCells g7 0 (sigA 0 64).toList) = w7 at HE3 HN3 ⊢
    generalize g7 = g8 at HE3 HN3 ⊢
    revert HN3 HE3
    revert w7
    revert g8
    exact hkey
    exact allH_nil
    exact allH_nil
    exact allH_nil
  case pf =>
    intro g7 w7 HE7 HN7
    have HH7 := hide (HH.out.ext HE7.out)
    have HBA7 := hide (HBA.out.ext HE7.out)
    have HK7 := hide (HKX.out.trans (KeepL.of HE7.out _ _ _ _))
    have HLD := hide (sig_range HN7.out)
    have HS7 := hide (sig_size 0 64)
    have HSG := hide (ksignals_ok HH7.out 2 (by omega) h2 hn 0 64)
    clear HX HH HBA HB0 HKX c0 c1 c2 HSR HSZ HCH hSx HE7
    go_wp2_with ((with_reducible refine wpList_load_mid rfl 56 (.tmp 13) rfl g7 0 rfl (sigL 0 64) _ HLD.out Tryz.underlying56 rfl HS7.out ?_))
    refine HSG.out.mono ?_
    rintro e w8 ⟨rfl, hh8, hk8⟩
    have HH3 := hide hh8
    have HBA3 := hide (hk8.blk HBA7.out (by decide) (by simp))
    have HK3 := hide (HK7.out.trans hk8)
    clear hh8 hk8 HSG HH7 HBA7 HK7 HLD HN7
    have HTA := hide (HBA3.out.there_ 0 11 (by simp))
    go_wp2_with ((with_reducible refine wpList_store_mid rfl 34 (.tmp 6) (.tmp 108) rfl (g + 1) 0 (ansL 0 0 0).toArray rfl ?_ ?_ ?_ ?_ ?_); (exact rfl); (exact HTA.out); (exact ans_size 0 0 0); (exact ans_one 0 0 0))
    have HE1 := hide (HH3.out.answered HBA3.out (Nat.le_trans hbw hgw) (ansL 0 0 0))
    have HE2 := hide (HK3.out.fresh hgw 0 (ansL 0 0 0))
    have HE3 := hide (HBA3.out.setAll (ansL 0 0 0) rfl)
    clear HH3 HK3 HBA3 HTA
    change bodyPost _ _ _ _ _ (w8.setCells (g + 1) 0 (ansL 0 0 0))
    generalize w8.setCells (g + 1) 0 (ansL 0 0 0) = w9 at *
    exact ans_ret Tryz.f42 6 rfl rfl rfl HE3.out ⟨_, _, _, _, rfl, ⟨rfl, rfl⟩, HE1.out, HE2.out⟩

end
end Go.Proofs.YthmojneobkaolaaGreatDoor

namespace Go.Proofs.YthmojneobkaolaaGreatDoor
open Go.RowKit
set_option linter.unusedVariables false

theorem boxes4 (w : World) (t0 t1 t2 t3 : TypeId) (c0 c1 c2 c3 : Array Value) : Blk ((((w.alloc (.cells c0 t0)).alloc (.cells c1 t1)).alloc (.cells c2 t2)).alloc (.cells c3 t3)) w.heap.size t0 c0 ∧ Blk ((((w.alloc (.cells c0 t0)).alloc (.cells c1 t1)).alloc (.cells c2 t2)).alloc (.cells c3 t3)) (w.heap.size + 1) t1 c1 ∧
    Blk ((((w.alloc (.cells c0 t0)).alloc (.cells c1 t1)).alloc (.cells c2 t2)).alloc (.cells c3 t3)) (w.heap.size + 2) t2 c2 ∧ Blk ((((w.alloc (.cells c0 t0)).alloc (.cells c1 t1)).alloc (.cells c2 t2)).alloc (.cells c3 t3)) (w.heap.size + 3) t3 c3 ∧
    Ext w ((((w.alloc (.cells c0 t0)).alloc (.cells c1 t1)).alloc (.cells c2 t2)).alloc (.cells c3 t3)) :=
  ⟨(((Blk.new w t0 c0).alloc _).alloc _).alloc _, ((Blk.new' (w.alloc (.cells c0 t0)) t1 c1 (by simp)).alloc _).alloc _, (Blk.new' ((w.alloc (.cells c0 t0)).alloc (.cells c1 t1)) t2 c2 (by simp)).alloc _, Blk.new' (((w.alloc (.cells c0 t0)).alloc (.cells c1 t1)).alloc (.cells c2 t2)) t3 c3 (by simp), ((((Ext.refl w).alloc _).alloc _).alloc _).alloc _⟩
section
variable {b : Nat} {w w' : World} {H : Hn} {s : KSt}
set_option maxHeartbeats 8000000 in
set_option maxRecDepth 100000 in
theorem do_ok (h : KAt b w H s) (p : Nat) (num x y : Int) (P : Int → Int → Int → KSt → Prop) (hn : num = 2 ∨ num = 34 ∨ num = 30 ∨ num = 20 ∨ num = 22)
    (hc : ∀ w1, KAt b w1 H s → Calls Tryz.prog 42 #[pV H.hk, .int .i64 (p : Int), callV num x y] w1 (Done b H w1 P)) :
    Calls Tryz.prog 17 #[pV H.hk, .int .i64 (p : Int), callV num x y] w (Done b H w P) := by
  have HC := hide hc
  clear hc
  have hx0 := (Ext.refl w).alloc (.cells (callL (num) (x) (y)).toArray 37)
  have hs0 : (w.alloc (.cells (callL (num) (x) (y)).toArray 37)).heap.size = w.heap.size + 1 := by simp
  have hxa := hx0.alloc (.cells (ansL 0 0 0).toArray 34)
  have hb0 := (Blk.new w 37 (callL (num) (x) (y)).toArray).ext ((Ext.refl _).alloc (.cells (ansL 0 0 0).toArray 34))
  have hba := Blk.new (w.alloc (.cells (callL (num) (x) (y)).toArray 37)) 34 (ansL 0 0 0).toArray
  rw [hs0] at hba
  have HB0 := hide hb0
  have HBA := hide hba
  have HX := hide hxa
  have HH := hide (h.ext hxa)
  have hbw := h.bw
  simp only [ansL] at HB0 HBA HX HH
  clear h hb0 hba hx0 hxa hs0
  go_enter Tryz.func17, Tryz.ntmps17
  go_upto_region 1 with fail
  obtain ⟨g, hg⟩ : ∃ g, w.heap.size = g := ⟨_, rfl⟩
  have hgw : w.heap.size ≤ g + 1 := by omega
  rw [hg] at HB0 HBA ⊢
  clear hg
  generalize (w.alloc _).alloc _ = W at *
  have HKX := hide (KeepL.of HX.out b kTs [] [H.bm])
  have c0 : W.cell? ⟨g, 0, none⟩ = some (.int .i64 (num)) := HB0.out.cell 0
  have c1 : W.cell? ⟨g, 1, none⟩ = some (.int .i64 (x)) := HB0.out.cell 1
  have c2 : W.cell? ⟨g, 2, none⟩ = some (.int .i64 (y)) := HB0.out.cell 2
  have HLD := hide HB0.out.all
  have HSZ := hide (call_size num x y)
  clear c1 c2
  rcases hn with rfl | rfl | rfl | rfl | rfl
  · go_wp2_with ((with_reducible refine wpList_load_mid rfl 37 (.tmp 5) rfl g 0 rfl (callL 2 x y) _ HLD.out Tryz.underlying37 rfl HSZ.out ?_))
    refine (HC.out W HH.out).mono ?_
    rintro e w3 ⟨er, x', y', s', rfl, hp, hh3, hk3⟩
    have HP := hide hp
    have HH3 := hide hh3
    have HBA3 := hide (hk3.blk HBA.out (by decide) (by simp))
    have HK3 := hide (HKX.out.trans hk3)
    clear hh3 hk3 hp HBA HH HKX HX HB0 c0 HLD HC
    have HTA := hide (HBA3.out.there_ 0 11 (by simp))
    go_wp2_with ((with_reducible refine wpList_store_mid rfl 34 (.tmp 6) (.tmp 57) rfl (g + 1) 0 (ansL er x' y').toArray rfl ?_ ?_ ?_ ?_ ?_); (exact rfl); (exact HTA.out); (exact ans_size er x' y'); (exact ans_one er x' y'))
    have HE1 := hide (HH3.out.answered HBA3.out (Nat.le_trans hbw hgw) (ansL er x' y'))
    have HE2 := hide (HK3.out.fresh hgw 0 (ansL er x' y'))
    have HE3 := hide (HBA3.out.setAll (ansL er x' y') rfl)
    clear HH3 HK3 HBA3 HTA
    change bodyPost _ _ _ _ _ (w3.setCells (g + 1) 0 (ansL er x' y'))
    generalize w3.setCells (g + 1) 0 (ansL er x' y') = w9 at *
    exact ans_ret Tryz.f17 6 rfl rfl rfl HE3.out ⟨_, _, _, _, rfl, HP.out, HE1.out, HE2.out⟩
  · go_wp2_with ((with_reducible refine wpList_load_mid rfl 37 (.tmp 5) rfl g 0 rfl (callL 34 x y) _ HLD.out Tryz.underlying37 rfl HSZ.out ?_))
    refine (HC.out W HH.out).mono ?_
    rintro e w3 ⟨er, x', y', s', rfl, hp, hh3, hk3⟩
    have HP := hide hp
    have HH3 := hide hh3
    have HBA3 := hide (hk3.blk HBA.out (by decide) (by simp))
    have HK3 := hide (HKX.out.trans hk3)
    clear hh3 hk3 hp HBA HH HKX HX HB0 c0 HLD HC
    have HTA := hide (HBA3.out.there_ 0 11 (by simp))
    go_wp2_with ((with_reducible refine wpList_store_mid rfl 34 (.tmp 6) (.tmp 57) rfl (g + 1) 0 (ansL er x' y').toArray rfl ?_ ?_ ?_ ?_ ?_); (exact rfl); (exact HTA.out); (exact ans_size er x' y'); (exact ans_one er x' y'))
    have HE1 := hide (HH3.out.answered HBA3.out (Nat.le_trans hbw hgw) (ansL er x' y'))
    have HE2 := hide (HK3.out.fresh hgw 0 (ansL er x' y'))
    have HE3 := hide (HBA3.out.setAll (ansL er x' y') rfl)
    clear HH3 HK3 HBA3 HTA
    change bodyPost _ _ _ _ _ (w3.setCells (g + 1) 0 (ansL er x' y'))
    generalize w3.setCells (g + 1) 0 (ansL er x' y') = w9 at *
    exact ans_ret Tryz.f17 6 rfl rfl rfl HE3.out ⟨_, _, _, _, rfl, HP.out, HE1.out, HE2.out⟩
  · go_wp2_with ((with_reducible refine wpList_load_mid rfl 37 (.tmp 5) rfl g 0 rfl (callL 30 x y) _ HLD.out Tryz.underlying37 rfl HSZ.out ?_))
    refine (HC.out W HH.out).mono ?_
    rintro e w3 ⟨er, x', y', s', rfl, hp, hh3, hk3⟩
    have HP := hide hp
    have HH3 := hide hh3
    have HBA3 := hide (hk3.blk HBA.out (by decide) (by simp))
    have HK3 := hide (HKX.out.trans hk3)
    clear hh3 hk3 hp HBA HH HKX HX HB0 c0 HLD HC
    have HTA := hide (HBA3.out.there_ 0 11 (by simp))
    go_wp2_with ((with_reducible refine wpList_store_mid rfl 34 (.tmp 6) (.tmp 57) rfl (g + 1) 0 (ansL er x' y').toArray rfl ?_ ?_ ?_ ?_ ?_); (exact rfl); (exact HTA.out); (exact ans_size er x' y'); (exact ans_one er x' y'))
    have HE1 := hide (HH3.out.answered HBA3.out (Nat.le_trans hbw hgw) (ansL er x' y'))
    have HE2 := hide (HK3.out.fresh hgw 0 (ansL er x' y'))
    have HE3 := hide (HBA3.out.setAll (ansL er x' y') rfl)
    clear HH3 HK3 HBA3 HTA
    change bodyPost _ _ _ _ _ (w3.setCells (g + 1) 0 (ansL er x' y'))
    generalize w3.setCells (g + 1) 0 (ansL er x' y') = w9 at *
    exact ans_ret Tryz.f17 6 rfl rfl rfl HE3.out ⟨_, _, _, _, rfl, HP.out, HE1.out, HE2.out⟩
  · go_wp2_with ((with_reducible refine wpList_load_mid rfl 37 (.tmp 5) rfl g 0 rfl (callL 20 x y) _ HLD.out Tryz.underlying37 rfl HSZ.out ?_))
    refine (HC.out W HH.out).mono ?_
    rintro e w3 ⟨er, x', y', s', rfl, hp, hh3, hk3⟩
    have HP := hide hp
    have HH3 := hide hh3
    have HBA3 := hide (hk3.blk HBA.out (by decide) (by simp))
    have HK3 := hide (HKX.out.trans hk3)
    clear hh3 hk3 hp HBA HH HKX HX HB0 c0 HLD HC
    have HTA := hide (HBA3.out.there_ 0 11 (by simp))
    go_wp2_with ((with_reducible refine wpList_store_mid rfl 34 (.tmp 6) (.tmp 57) rfl (g + 1) 0 (ansL er x' y').toArray rfl ?_ ?_ ?_ ?_ ?_); (exact rfl); (exact HTA.out); (exact ans_size er x' y'); (exact ans_one er x' y'))
    have HE1 := hide (HH3.out.answered HBA3.out (Nat.le_trans hbw hgw) (ansL er x' y'))
    have HE2 := hide (HK3.out.fresh hgw 0 (ansL er x' y'))
    have HE3 := hide (HBA3.out.setAll (ansL er x' y') rfl)
    clear HH3 HK3 HBA3 HTA
    change bodyPost _ _ _ _ _ (w3.setCells (g + 1) 0 (ansL er x' y'))
    generalize w3.setCells (g + 1) 0 (ansL er x' y') = w9 at *
    exact ans_ret Tryz.f17 6 rfl rfl rfl HE3.out ⟨_, _, _, _, rfl, HP.out, HE1.out, HE2.out⟩
  · go_wp2_with ((with_reducible refine wpList_load_mid rfl 37 (.tmp 5) rfl g 0 rfl (callL 22 x y) _ HLD.out Tryz.underlying37 rfl HSZ.out ?_))
    refine (HC.out W HH.out).mono ?_
    rintro e w3 ⟨er, x', y', s', rfl, hp, hh3, hk3⟩
    have HP := hide hp
    have HH3 := hide hh3
    have HBA3 := hide (hk3.blk HBA.out (by decide) (by simp))
    have HK3 := hide (HKX.out.trans hk3)
    clear hh3 hk3 hp HBA HH HKX HX HB0 c0 HLD HC
    have HTA := hide (HBA3.out.there_ 0 11 (by simp))
    go_wp2_with ((with_reducible refine wpList_store_mid rfl 34 (.tmp 6) (.tmp 57) rfl (g + 1) 0 (ansL er x' y').toArray rfl ?_ ?_ ?_ ?_ ?_); (exact rfl); (exact HTA.out); (exact ans_size er x' y'); (exact ans_one er x' y'))
    have HE1 := hide (HH3.out.answered HBA3.out (Nat.le_trans hbw hgw) (ansL er x' y'))
    have HE2 := hide (HK3.out.fresh hgw 0 (ansL er x' y'))
    have HE3 := hide (HBA3.out.setAll (ansL er x' y') rfl)
    clear HH3 HK3 HBA3 HTA
    change bodyPost _ _ _ _ _ (w3.setCells (g + 1) 0 (ansL er x' y'))
    generalize w3.setCells (g + 1) 0 (ansL er x' y') = w9 at *
    exact ans_ret Tryz.f17 6 rfl rfl rfl HE3.out ⟨_, _, _, _, rfl, HP.out, HE1.out, HE2.out⟩
set_option maxHeartbeats 8000000 in
set_option maxRecDepth 100000 in
theorem ask1_ok (h : KAt b w H s) (p : Nat) (num x y : Int) (P : Int → Int → Int → KSt → Prop) (g0 : Nat) (hb0 : Blk w g0 23 #[pV H.hk]) (hb1 : Blk w (g0 + 1) 3 #[.int .i64 (p : Int)]) (hb2 : Blk w (g0 + 2) 37 (callL num x y).toArray)
    (hn : num = 2 ∨ num = 34 ∨ num = 30 ∨ num = 20 ∨ num = 22) (hc : ∀ w1, KAt b w1 H s → Calls Tryz.prog 42 #[pV H.hk, .int .i64 (p : Int), callV num x y] w1 (Done b H w1 P)) :
    Calls Tryz.prog 16 #[.pointer (some ⟨g0, 0, none⟩), .pointer (some ⟨g0 + 1, 0, none⟩), .pointer (some ⟨g0 + 2, 0, none⟩)] w (Done b H w P) := by
  have hx0 := (Ext.refl w).alloc (.cells (ansL 0 0 0).toArray 34)
  have hba := Blk.new w 34 (ansL 0 0 0).toArray
  have HBA := hide hba
  have HX := hide hx0
  have HH := hide (h.ext hx0)
  have HB0 := hide (hb0.ext hx0)
  have HB1 := hide (hb1.ext hx0)
  have HB2 := hide (hb2.ext hx0)
  have HC := hide (do_ok (h.ext hx0) p num x y P hn hc)
  have hbw := h.bw
  simp only [ansL] at HBA HX HH HB0 HB1 HB2 HC
  clear h hba hx0 hc hb0 hb1 hb2
  go_enter Tryz.func16, Tryz.ntmps16
  go_upto_region 1 with fail
  obtain ⟨g, hg⟩ : ∃ g, w.heap.size = g := ⟨_, rfl⟩
  have hgw : w.heap.size ≤ g := by omega
  rw [hg] at HBA ⊢
  clear hg
  generalize w.alloc _ = W at *
  have HKX := hide (KeepL.of HX.out b kTs [] [H.bm])
  have c0 : W.cell? ⟨g0, 0, none⟩ = some (pV H.hk) := HB0.out.cell 0
  have c1 : W.cell? ⟨g0 + 1, 0, none⟩ = some (.int .i64 (p : Int)) := HB1.out.cell 0
  have HLD := hide HB2.out.all
  have HSZ := hide (call_size num x y)
  go_wp2_with ((with_reducible refine wpList_load_mid rfl 37 (.tmp 2) rfl (g0 + 2) 0 rfl (callL num x y) _ HLD.out Tryz.underlying37 rfl HSZ.out ?_))
  refine HC.out.mono ?_
  rintro e w3 ⟨er, x', y', s', rfl, hp, hh3, hk3⟩
  have HP := hide hp
  have HH3 := hide hh3
  have HBA3 := hide (hk3.blk HBA.out (by decide) (by simp))
  have HK3 := hide (HKX.out.trans hk3)
  clear hh3 hk3 hp HBA HH HKX HX HB0 HB1 HB2 c0 c1 HLD HC
  have HTA := hide (HBA3.out.there_ 0 11 (by simp))
  go_wp2_with ((with_reducible refine wpList_store_mid rfl 34 (.tmp 3) (.tmp 7) rfl g 0 (ansL er x' y').toArray rfl ?_ ?_ ?_ ?_ ?_); (exact rfl); (exact HTA.out); (exact ans_size er x' y'); (exact ans_one er x' y'))
  have HE1 := hide (HH3.out.answered HBA3.out (Nat.le_trans hbw hgw) (ansL er x' y'))
  have HE2 := hide (HK3.out.fresh hgw 0 (ansL er x' y'))
  have HE3 := hide (HBA3.out.setAll (ansL er x' y') rfl)
  clear HH3 HK3 HBA3 HTA
  change bodyPost _ _ _ _ _ (w3.setCells g 0 (ansL er x' y'))
  generalize w3.setCells g 0 (ansL er x' y') = w9 at *
  exact ans_ret Tryz.f16 3 rfl rfl rfl HE3.out ⟨_, _, _, _, rfl, HP.out, HE1.out, HE2.out⟩
set_option maxHeartbeats 8000000 in
set_option maxRecDepth 100000 in
theorem ask_asleep (h : KAt b w H s) (p : Nat) (h1 : 1 ≤ p) (h2 : p ≤ s.n) (hn : s.n ≤ 16) (num x y : Int) (hz : s.zz p = true) : Calls Tryz.prog 6 #[pV H.hk, .int .i64 (p : Int), callV num x y] w (Done b H w fun er x y s' => er = 8 ∧ s' = s) := by
  obtain ⟨hb0, hb1, hb2, hb3, hx⟩ := boxes4 w 23 3 37 34 #[pV H.hk] #[.int .i64 (p : Int)] (callL num x y).toArray (ansL 0 0 0).toArray
  have HB0 := hide hb0
  have HB1 := hide hb1
  have HB2 := hide hb2
  have HBA := hide hb3
  have HX := hide hx
  have HH := hide (h.ext hx)
  have HLV := hide (living_ok (h.ext hx) p h1 h2 hn)
  have hbw := h.bw
  simp only [ansL] at HB0 HB1 HB2 HBA HX HH HLV
  clear h hb0 hb1 hb2 hb3 hx
  go_enter Tryz.func6, Tryz.ntmps6
  go_upto_region 1 with fail
  obtain ⟨g, hg⟩ : ∃ g, w.heap.size = g := ⟨_, rfl⟩
  have hgw : w.heap.size ≤ g + 3 := by omega
  rw [hg] at HB0 HB1 HB2 HBA ⊢
  clear hg
  generalize (((w.alloc _).alloc _).alloc _).alloc _ = W at *
  have HKX := hide (KeepL.of HX.out b kTs [] [H.bm])
  have c0 : W.cell? ⟨g, 0, none⟩ = some (pV H.hk) := HB0.out.cell 0
  have c1 : W.cell? ⟨g + 1, 0, none⟩ = some (.int .i64 (p : Int)) := HB1.out.cell 0
  go_wp2_with fail
  refine HLV.out.mono ?_
  rintro e w' ⟨rfl, rfl⟩
  have c37 := HH.out.asleep p h1 h2 hn
  have hp17 : (p : Int) < 17 := by omega
  rw [hz] at c37
  clear HLV
  go_upto_region 4 with fail
  go_quiet (fail)
  have HXQ := hide ((Ext.refl W).drewN nq)
  generalize W.drewN nq = W2 at *
  replace HB0 := hide (HB0.out.ext HXQ.out)
  replace HB1 := hide (HB1.out.ext HXQ.out)
  replace HB2 := hide (HB2.out.ext HXQ.out)
  replace HBA := hide (HBA.out.ext HXQ.out)
  replace HH := hide (HH.out.ext HXQ.out)
  replace HKX := hide (HKX.out.trans (KeepL.of HXQ.out _ _ _ _))
  clear c0 c1 c37 HXQ HX
  have c0 : W2.cell? ⟨g, 0, none⟩ = some (pV H.hk) := HB0.out.cell 0
  have c1 : W2.cell? ⟨g + 1, 0, none⟩ = some (.int .i64 (p : Int)) := HB1.out.cell 0
  have HFL := hide (fail_ok 8 W2)
  go_wp2_with fail
  refine HFL.out.mono ?_
  rintro e w4 ⟨rfl, hx4⟩
  have HH3 := hide (HH.out.ext hx4)
  have HBA3 := hide (HBA.out.ext hx4)
  have HK3 := hide (HKX.out.trans (KeepL.of hx4 _ _ _ _))
  clear hx4 HFL HB0 HB1 HB2 HBA HH HKX c0 c1
  have HTA := hide (HBA3.out.there_ 0 11 (by simp))
  go_wp2_with ((with_reducible refine wpList_store_mid rfl 34 (.tmp 6) (.tmp 24) rfl (g + 3) 0 (ansL 8 0 0).toArray rfl ?_ ?_ ?_ ?_ ?_); (exact rfl); (exact HTA.out); (exact ans_size 8 0 0); (exact ans_one 8 0 0))
  have HE1 := hide (HH3.out.answered HBA3.out (Nat.le_trans hbw hgw) (ansL 8 0 0))
  have HE2 := hide (HK3.out.fresh hgw 0 (ansL 8 0 0))
  have HE3 := hide (HBA3.out.setAll (ansL 8 0 0) rfl)
  clear HH3 HK3 HBA3 HTA
  change bodyPost _ _ _ _ _ (w4.setCells (g + 3) 0 (ansL 8 0 0))
  generalize w4.setCells (g + 3) 0 (ansL 8 0 0) = w9 at *
  exact ans_ret Tryz.f6 6 rfl rfl rfl HE3.out ⟨_, _, _, _, rfl, ⟨rfl, rfl⟩, HE1.out, HE2.out⟩
set_option maxHeartbeats 8000000 in
set_option maxRecDepth 100000 in
theorem ask_signal (h : KAt b w H s) (p : Nat) (h1 : 1 ≤ p) (h2 : p ≤ s.n) (hn : s.n ≤ 16) (num x y : Int) (h3 : 2 ≤ p) (hz : s.zz p = false) (hsg : s.sg p = (8, 64)) : Calls Tryz.prog 6 #[pV H.hk, .int .i64 (p : Int), callV num x y] w (Done b H w fun er x y s' => er = 19 ∧ x = 3 ∧ s' = s.sig p (0, 64)) := by
  obtain ⟨hb0, hb1, hb2, hb3, hx⟩ := boxes4 w 23 3 37 34 #[pV H.hk] #[.int .i64 (p : Int)] (callL num x y).toArray (ansL 0 0 0).toArray
  have HB0 := hide hb0
  have HB1 := hide hb1
  have HB2 := hide hb2
  have HBA := hide hb3
  have HX := hide hx
  have HH := hide (h.ext hx)
  have HLV := hide (living_ok (h.ext hx) p h1 h2 hn)
  have hbw := h.bw
  simp only [ansL] at HB0 HB1 HB2 HBA HX HH HLV
  clear h hb0 hb1 hb2 hb3 hx
  go_enter Tryz.func6, Tryz.ntmps6
  go_upto_region 1 with fail
  obtain ⟨g, hg⟩ : ∃ g, w.heap.size = g := ⟨_, rfl⟩
  have hgw : w.heap.size ≤ g + 3 := by omega
  rw [hg] at HB0 HB1 HB2 HBA ⊢
  clear hg
  generalize (((w.alloc _).alloc _).alloc _).alloc _ = W at *
  have HKX := hide (KeepL.of HX.out b kTs [] [H.bm])
  have c0 : W.cell? ⟨g, 0, none⟩ = some (pV H.hk) := HB0.out.cell 0
  have c1 : W.cell? ⟨g + 1, 0, none⟩ = some (.int .i64 (p : Int)) := HB1.out.cell 0
  go_wp2_with fail
  refine HLV.out.mono ?_
  rintro e w' ⟨rfl, rfl⟩
  have c37 := HH.out.asleep p h1 h2 hn
  have hp17 : (p : Int) < 17 := by omega
  rw [hz] at c37
  clear HLV
  go_upto_region 4 with fail
  go_quiet (fail)
  have HXQ := hide ((Ext.refl W).drewN nq)
  generalize W.drewN nq = W2 at *
  replace HB0 := hide (HB0.out.ext HXQ.out)
  replace HB1 := hide (HB1.out.ext HXQ.out)
  replace HB2 := hide (HB2.out.ext HXQ.out)
  replace HBA := hide (HBA.out.ext HXQ.out)
  replace HH := hide (HH.out.ext HXQ.out)
  replace HKX := hide (HKX.out.trans (KeepL.of HXQ.out _ _ _ _))
  clear c0 c1 c37 HXQ HX
  have c0 : W2.cell? ⟨g, 0, none⟩ = some (pV H.hk) := HB0.out.cell 0
  have c1 : W2.cell? ⟨g + 1, 0, none⟩ = some (.int .i64 (p : Int)) := HB1.out.cell 0
  have HBT := hide (between_some HH.out p h3 h2 hn hsg)
  go_wp2_with fail
  refine HBT.out.mono ?_
  rintro e w4 ⟨rfl, hh4, hk4⟩
  have HH3 := hide hh4
  have HBA3 := hide (hk4.blk HBA.out (by decide) (by simp))
  have HK3 := hide (HKX.out.trans hk4)
  clear hh4 hk4 HBT HB0 HB1 HB2 HBA HH HKX c0 c1
  have HTA := hide (HBA3.out.there_ 0 11 (by simp))
  go_wp2_with ((with_reducible refine wpList_store_mid rfl 34 (.tmp 6) (.tmp 33) rfl (g + 3) 0 (ansL 19 3 0).toArray rfl ?_ ?_ ?_ ?_ ?_); (exact rfl); (exact HTA.out); (exact ans_size 19 3 0); (exact ans_one 19 3 0))
  have HE1 := hide (HH3.out.answered HBA3.out (Nat.le_trans hbw hgw) (ansL 19 3 0))
  have HE2 := hide (HK3.out.fresh hgw 0 (ansL 19 3 0))
  have HE3 := hide (HBA3.out.setAll (ansL 19 3 0) rfl)
  clear HH3 HK3 HBA3 HTA
  change bodyPost _ _ _ _ _ (w4.setCells (g + 3) 0 (ansL 19 3 0))
  generalize w4.setCells (g + 3) 0 (ansL 19 3 0) = w9 at *
  exact ans_ret Tryz.f6 6 rfl rfl rfl HE3.out ⟨_, _, _, _, rfl, ⟨rfl, rfl, rfl⟩, HE1.out, HE2.out⟩
set_option maxHeartbeats 8000000 in
set_option maxRecDepth 100000 in
theorem ask_ok (h : KAt b w H s) (p : Nat) (h1 : 1 ≤ p) (h2 : p ≤ s.n) (hn : s.n ≤ 16) (num x y : Int) (hz : s.zz p = false) (v : Int) (hv : 0 ≤ v) (hsg : s.sg p = (0, v)) (P : Int → Int → Int → KSt → Prop)
    (hnum : num = 2 ∨ num = 34 ∨ num = 30 ∨ num = 20 ∨ num = 22) (hc : ∀ w1, KAt b w1 H s → Calls Tryz.prog 42 #[pV H.hk, .int .i64 (p : Int), callV num x y] w1 (Done b H w1 P)) :
    Calls Tryz.prog 6 #[pV H.hk, .int .i64 (p : Int), callV num x y] w (Done b H w P) := by
  have HC := hide hc
  clear hc
  obtain ⟨hb0, hb1, hb2, hb3, hx⟩ := boxes4 w 23 3 37 34 #[pV H.hk] #[.int .i64 (p : Int)] (callL num x y).toArray (ansL 0 0 0).toArray
  have HB0 := hide hb0
  have HB1 := hide hb1
  have HB2 := hide hb2
  have HBA := hide hb3
  have HX := hide hx
  have HH := hide (h.ext hx)
  have HLV := hide (living_ok (h.ext hx) p h1 h2 hn)
  have hbw := h.bw
  simp only [ansL] at HB0 HB1 HB2 HBA HX HH HLV
  clear h hb0 hb1 hb2 hb3 hx
  go_enter Tryz.func6, Tryz.ntmps6
  go_upto_region 1 with fail
  obtain ⟨g, hg⟩ : ∃ g, w.heap.size = g := ⟨_, rfl⟩
  have hgw : w.heap.size ≤ g + 3 := by omega
  rw [hg] at HB0 HB1 HB2 HBA ⊢
  clear hg
  generalize (((w.alloc _).alloc _).alloc _).alloc _ = W at *
  have HKX := hide (KeepL.of HX.out b kTs [] [H.bm])
  have c0 : W.cell? ⟨g, 0, none⟩ = some (pV H.hk) := HB0.out.cell 0
  have c1 : W.cell? ⟨g + 1, 0, none⟩ = some (.int .i64 (p : Int)) := HB1.out.cell 0
  go_wp2_with fail
  refine HLV.out.mono ?_
  rintro e w' ⟨rfl, rfl⟩
  have c37 := HH.out.asleep p h1 h2 hn
  have hp17 : (p : Int) < 17 := by omega
  rw [hz] at c37
  clear HLV
  go_upto_region 4 with fail
  go_quiet (fail)
  have HXQ := hide ((Ext.refl W).drewN nq)
  generalize W.drewN nq = W2 at *
  replace HB0 := hide (HB0.out.ext HXQ.out)
  replace HB1 := hide (HB1.out.ext HXQ.out)
  replace HB2 := hide (HB2.out.ext HXQ.out)
  replace HBA := hide (HBA.out.ext HXQ.out)
  replace HH := hide (HH.out.ext HXQ.out)
  replace HKX := hide (HKX.out.trans (KeepL.of HXQ.out _ _ _ _))
  clear c0 c1 c37 HXQ HX
  have c0 : W2.cell? ⟨g, 0, none⟩ = some (pV H.hk) := HB0.out.cell 0
  have c1 : W2.cell? ⟨g + 1, 0, none⟩ = some (.int .i64 (p : Int)) := HB1.out.cell 0
  have HBT := hide (between_none HH.out p h1 h2 hn v hv hsg)
  go_wp2_with fail
  refine HBT.out.mono ?_
  rintro e w4 ⟨rfl, hx4⟩
  have HB40 := hide (HB0.out.ext hx4)
  have HB41 := hide (HB1.out.ext hx4)
  have HB42 := hide (HB2.out.ext hx4)
  have HBA4 := hide (HBA.out.ext hx4)
  have HH4 := hide (HH.out.ext hx4)
  have HK4 := hide (HKX.out.trans (KeepL.of hx4 _ _ _ _))
  clear hx4 HBT HB0 HB1 HB2 HBA HH HKX c0 c1
  have hxc := (Ext.refl w4).alloc (.cells (ansL 0 0 0).toArray 34)
  have HBC := hide (Blk.new w4 34 (ansL 0 0 0).toArray)
  have HCA := hide (catch_ok (R := fun er x y w' => ∃ s', P er x y s' ∧ KAt b w' H s' ∧ KKeep b H w4 w' ∧ Blk w' w4.heap.size 34 (ansL 0 0 0).toArray) ⟨g, 0, none⟩ ⟨g + 1, 0, none⟩ ⟨g + 2, 0, none⟩ w4 ((ask1_ok (HH4.out.ext hxc) p num x y P g (HB40.out.ext hxc) (HB41.out.ext hxc) (HB42.out.ext hxc) hnum HC.out).mono (by
    rintro e w' ⟨er, x', y', s', rfl, hp, hh, hk⟩
    have hbc := hk.blk HBC.out (by decide) (by simp)
    exact ⟨er, x', y', rfl, hbc, s', hp, hh, (KeepL.of hxc _ _ _ _).trans hk, hbc⟩)))
  have hmf : ∀ (fn : Fn) (first cap : Array Value) (w : World), (Instr.makeFunc fn first cap).run Tryz.prog w = .ok (.func fn first cap) w := fun _ _ _ _ => rfl
  clear hxc HC
  go_wp2_with fail
  refine HCA.out.mono ?_
  rintro e w6 ⟨er, x', y', w5, rfl, ⟨s', hp, hh5, hk5, hbc⟩, rfl⟩
  have HP := hide hp
  have HBA5 := hide (hk5.blk HBA4.out (by decide) (by simp))
  have HH3 := hide (hh5.answered hbc HH4.out.bw (ansL er x' y'))
  have HK3 := hide (HK4.out.trans (hk5.fresh (Nat.le_refl _) 0 (ansL er x' y')))
  have HBA3 := hide (HBA5.out.farC (show g + 3 ≠ w4.heap.size by have := HBA4.out.lt; omega) 0 (ansL er x' y'))
  clear hp hh5 hk5 hbc HBA5 HBA4 HK4 HH4 HB40 HB41 HB42 HBC HCA
  generalize w5.setCells w4.heap.size 0 (ansL er x' y') = w6 at *
  have HTA := hide (HBA3.out.there_ 0 11 (by simp))
  go_wp2_with ((with_reducible refine wpList_store_mid rfl 34 (.tmp 6) (.tmp 35) rfl (g + 3) 0 (ansL er x' y').toArray rfl ?_ ?_ ?_ ?_ ?_); (exact rfl); (exact HTA.out); (exact ans_size er x' y'); (exact ans_one er x' y'))
  have HE1 := hide (HH3.out.answered HBA3.out (Nat.le_trans hbw hgw) (ansL er x' y'))
  have HE2 := hide (HK3.out.fresh hgw 0 (ansL er x' y'))
  have HE3 := hide (HBA3.out.setAll (ansL er x' y') rfl)
  clear HH3 HK3 HBA3 HTA
  change bodyPost _ _ _ _ _ (w6.setCells (g + 3) 0 (ansL er x' y'))
  generalize w6.setCells (g + 3) 0 (ansL er x' y') = w9 at *
  exact ans_ret Tryz.f6 6 rfl rfl rfl HE3.out ⟨_, _, _, _, rfl, HP.out, HE1.out, HE2.out⟩
end
end Go.Proofs.YthmojneobkaolaaGreatDoor

namespace Go.Proofs.YthmojneobkaolaaGreatDoor
open Go.RowKit
set_option linter.unusedVariables false

/-- Process i + 2 sleeps till us[i]; it is 'now'. -/
structure Slp (us : List Nat) (now : Nat) (s : KSt) : Prop where
  n : s.n = us.length + 1
  now_ : s.now = now
  tm : Timely s.ls
  len : s.ls.length ≤ us.length
  ids : ∀ q ∈ s.ls, 2 ≤ q.2 ∧ q.2 < us.length + 2 ∧ us[q.2 - 2]? = some q.1 ∧ now < q.1
  has : ∀ i t, us[i]? = some t → now < t → (t, i + 2) ∈ s.ls
  on : ∀ i t, us[i]? = some t → s.zz (i + 2) = decide (now < t)
  sg : ∀ p, 1 ≤ p → p ≤ us.length + 1 → s.sg p = (0, 0)
  z1 : s.zz 1 = false
  ul : ∀ t ∈ us, 1 ≤ t ∧ t ≤ 30
def ks0 : KSt := { n := 1, now := 0, ls := [], zz := fun _ => false, sg := fun _ => (0, 0) }
theorem slp0 : Slp [] 0 ks0 := ⟨rfl, rfl, List.Pairwise.nil, Nat.le_refl _, fun q hq => (by cases hq), fun i t h => (by simp at h), fun i t h => (by simp at h), fun _ _ _ => rfl, rfl, fun t ht => (by cases ht)⟩
section
variable {us : List Nat} {now : Nat} {s : KSt}
/-- One more is born, and sleeps. -/
theorem Slp.more (h : Slp us 0 s) {t i : Nat} (ht : 1 ≤ t) (ht2 : t ≤ 30) (htm : Timely (s.born.timer i (s.now + t) (us.length + 2)).ls) (hx : s.now = 0) : Slp (us ++ [t]) 0 ((s.born.timer i (s.now + t) (us.length + 2)).slept (us.length + 2) true) := by
  have hmem : ∀ q, q ∈ (s.born.timer i (s.now + t) (us.length + 2)).ls ↔ q = (t, us.length + 2) ∨ q ∈ s.ls := fun q => by
    show q ∈ s.ls.take i ++ ((s.now + t, us.length + 2) :: s.ls.drop i) ↔ _
    rw [hx, Nat.zero_add]
    have e : q ∈ s.ls ↔ q ∈ s.ls.take i ∨ q ∈ s.ls.drop i := by
      rw [← List.mem_append, List.take_append_drop]
    rw [e, List.mem_append, List.mem_cons]
    constructor
    · rintro (h | h | h)
      · exact .inr (.inl h)
      · exact .inl h
      · exact .inr (.inr h)
    · rintro (h | h | h)
      · exact .inr (.inl h)
      · exact .inl h
      · exact .inr (.inr h)
  have hget : ∀ j u, (us ++ [t])[j]? = some u → (j < us.length ∧ us[j]? = some u) ∨ (j = us.length ∧ u = t) := fun j u hj => by
    rcases Nat.lt_trichotomy j us.length with hl | rfl | hl
    · rw [List.getElem?_append_left hl] at hj
      exact .inl ⟨hl, hj⟩
    · rw [List.getElem?_append_right (Nat.le_refl _), Nat.sub_self] at hj
      simp at hj
      exact .inr ⟨rfl, hj.symm⟩
    · rw [List.getElem?_eq_none (by simp; omega)] at hj
      cases hj
  have hn := h.n
  refine ⟨?_, h.now_, htm, ?_, fun q hq => ?_, fun j u hj hu => ?_, fun j u hj => ?_, fun p hp1 hp2 => ?_, ?_, fun u hu => ?_⟩
  · show s.n + 1 = (us ++ [t]).length + 1
    rw [hn, List.length_append]
    rfl
  · show (s.ls.take i ++ ((s.now + t, us.length + 2) :: s.ls.drop i)).length ≤ (us ++ [t]).length
    have := h.len
    simp only [List.length_append, List.length_cons, List.length_take, List.length_drop, List.length_nil]
    omega
  · rcases (hmem q).1 hq with rfl | hq
    · exact ⟨by simp, by simp, by simp, by show 0 < t; omega⟩
    · obtain ⟨h1, h2, h3, h4⟩ := h.ids q hq
      exact ⟨h1, by rw [List.length_append]; omega, by rw [List.getElem?_append_left (by omega)]; exact h3, h4⟩
  · rcases hget j u hj with ⟨hl, hj⟩ | ⟨rfl, rfl⟩
    · exact (hmem _).2 (.inr (h.has j u hj hu))
    · exact (hmem _).2 (.inl rfl)
  · show updN (updN s.zz (s.n + 1) false) (us.length + 2) true (j + 2) = _
    rcases hget j u hj with ⟨hl, hj⟩ | ⟨rfl, rfl⟩
    · rw [updN_other _ _ _ _ (by omega), updN_other _ _ _ _ (by omega)]
      exact h.on j u hj
    · rw [updN_same, decide_eq_true (by omega)]
  · show updN s.sg (s.n + 1) (0, 0) p = (0, 0)
    rw [List.length_append] at hp2
    by_cases e : p = s.n + 1
    · subst e
      exact updN_same _ _ _
    · rw [updN_other _ _ _ _ e]
      exact h.sg p hp1 (by simp at hp2; omega)
  · show updN (updN s.zz (s.n + 1) false) (us.length + 2) true 1 = false
    rw [updN_other _ _ _ _ (by omega), updN_other _ _ _ _ (by omega)]
    exact h.z1
  · rcases List.mem_append.1 hu with hu | hu
    · exact h.ul u hu
    · rw [List.mem_singleton.1 hu]
      exact ⟨ht, ht2⟩
/-- A tick. -/
theorem Slp.tick (h : Slp us now s) {k : Nat} (hlo : ∀ p ∈ s.ls.take k, p.1 ≤ s.now + 1) (hhi : ∀ p ∈ s.ls.drop k, s.now + 1 < p.1) :
    Slp us (now + 1) (({ s with now := s.now + 1, ls := s.ls.drop k } : KSt).woken ((s.ls.take k).map (·.2))) := by
  obtain ⟨e1, e2, e3, e4⟩ := ({ s with now := s.now + 1, ls := s.ls.drop k } : KSt).woken_rest ((s.ls.take k).map (·.2))
  have hnow := h.now_
  have hin : ∀ q, q ∈ s.ls → q ∈ s.ls.take k ∨ q ∈ s.ls.drop k := fun q hq => by
    rw [← List.take_append_drop k s.ls] at hq
    exact List.mem_append.1 hq
  have hdr : ∀ q ∈ s.ls.drop k, q ∈ s.ls := fun q hq => List.mem_of_mem_drop hq
  refine ⟨by rw [e1]; exact h.n, by rw [e2]; show s.now + 1 = now + 1; rw [hnow], ?_, ?_, fun q hq => ?_, fun i t hi ht => ?_, fun i t hi => ?_, fun p hp1 hp2 => ?_, ?_, h.ul⟩
  · rw [e3]
    exact low_of (t := 0) h.tm k
  · rw [e3]
    show (s.ls.drop k).length ≤ _
    have := h.len
    rw [List.length_drop]
    omega
  · rw [e3] at hq
    obtain ⟨h1, h2, h3, h4⟩ := h.ids q (hdr q hq)
    have := hhi q hq
    exact ⟨h1, h2, h3, by omega⟩
  · rw [e3]
    rcases hin _ (h.has i t hi (by omega)) with hq | hq
    · have := hlo _ hq
      simp only at this
      omega
    · exact hq
  · rw [KSt.woken_zz]
    by_cases hm : i + 2 ∈ (s.ls.take k).map (·.2)
    · rw [if_pos hm]
      obtain ⟨q, hq, hq2⟩ := List.mem_map.1 hm
      obtain ⟨h1, h2, h3, h4⟩ := h.ids q (List.mem_of_mem_take hq)
      rw [hq2, Nat.add_sub_cancel, hi] at h3
      injection h3 with h3
      have := hlo q hq
      exact (decide_eq_false (by omega)).symm
    · rw [if_neg hm]
      show s.zz (i + 2) = _
      rw [h.on i t hi]
      by_cases hlt : now < t
      · rcases hin _ (h.has i t hi hlt) with hq | hq
        · exact absurd (List.mem_map.2 ⟨_, hq, rfl⟩) hm
        · have := hhi _ hq
          simp only at this
          rw [decide_eq_true hlt, decide_eq_true (by omega)]
      · rw [decide_eq_false hlt, decide_eq_false (by omega)]
  · rw [e4]
    exact h.sg p hp1 hp2
  · rw [KSt.woken_zz]
    split
    · rfl
    · exact h.z1
/-- In the end nobody sleeps. -/
theorem Slp.over (h : Slp us 32 s) : s.ls = [] := by
  rcases hl : s.ls with _ | ⟨q, l⟩
  · rfl
  · exfalso
    obtain ⟨h1, h2, h3, h4⟩ := h.ids q (by rw [hl]; exact List.mem_cons_self ..)
    have := h.ul q.1 (List.mem_of_getElem? h3)
    omega
end
theorem KSt.sig_same (s : KSt) (p : Nat) (q : Int × Int) : (s.sig p q).sg p = q := updN_same s.sg p q
theorem KSt.slept_same (s : KSt) (p : Nat) (z : Bool) : (s.slept p z).zz p = z := updN_same s.zz p z
theorem KSt.sig_other (s : KSt) (p r : Nat) (q : Int × Int) (h : r ≠ p) : (s.sig p q).sg r = s.sg r := updN_other _ _ _ _ h
theorem KSt.slept_other (s : KSt) (p r : Nat) (z : Bool) (h : r ≠ p) : (s.slept p z).zz r = s.zz r := updN_other _ _ _ _ h
end Go.Proofs.YthmojneobkaolaaGreatDoor

namespace Go.Proofs.YthmojneobkaolaaGreatDoor
open Go.RowKit
set_option linter.unusedVariables false

/-- A kernel has started. -/
def StartedPost (w : World) (e : Ending) (w' : World) : Prop :=
  ∃ H vd, e = .returned (.tuple #[pV H.hk, vd, .bool true]) ∧ KAt w.heap.size w' H ks0 ∧ Ext w w'
/-- The kernel stays where a row of ints grows that is not its first directory's. -/
theorem KAt.grow {b b' : Nat} {w w' : World} {H : Hn} {s : KSt} {n : Nat} {v : Value} {xs : List Value} (h : KAt b w H s) (hu : w.ownsRow b' 3 1 v n xs) (hg : w.grownBy w' v.ownBlock) (hne : H.cw.ownBlock = none ∨ H.cw.ownBlock ≠ v.ownBlock) : KAt b w' H s := by
  have hk : KeepL b' [3] [] [] w w' := KeepL.grown hu (by simp) (Nat.le_refl _) hg
  obtain ⟨T, hk', h1', hcw, ht⟩ := h.ker
  obtain ⟨m, hm0, hm1, hr⟩ := h.run
  exact ⟨⟨T, hk'.keep hk (by decide) (by simp), h1', hcw.kept hg hne, ht⟩, h.proc.keep hk (by decide) rfl, h.opn.keep hk (by decide) rfl, h.space.keep hk (by decide) (by simp), ⟨m, hm0, hm1, hr.keep hk (by decide) (by decide) rfl⟩, h.wheel.keep hk (by decide) (by decide) rfl, h.ge, Nat.le_trans h.bw hk.size⟩
theorem KeepL.freshG {b : Nat} {L : List TypeId} {G M : List Nat} {w0 w w' : World} (h : KeepL b L G M w0 w) {row : Option Nat} (hg : w.grownBy w' row) (hr : ∀ k, row = some k → w0.heap.size ≤ k) : KeepL b L G M w0 w' := by
  have e : ∀ k, k < w0.heap.size → w'.heap[k]? = w.heap[k]? := fun k hk => hg.block k (Nat.lt_of_lt_of_le hk h.size) (fun e => by have := hr k e.symm; omega)
  exact ⟨hg.os.trans h.os, hg.tape.trans h.tape, hg.output.trans h.output, Nat.le_trans h.size hg.size, fun k hk hs => (e k hs).trans (h.low k hk hs), fun k cs t fz hc ht hG => (e k (lt_of_some hc)).trans (h.cells k cs t fz hc ht hG), fun k o hc hn hm => (e k (lt_of_some hc)).trans (h.rest k o hc hn hm)⟩
theorem KAt.cwlt {b : Nat} {w : World} {H : Hn} {s : KSt} (h : KAt b w H s) : ∀ k, H.cw.ownBlock = some k → k < w.heap.size := by
  obtain ⟨T, hk', h1', hcw, ht⟩ := h.ker
  exact fun k hk => (hcw.lt k hk).2
def usV (us : List Nat) : List Value := intsV (us.map fun (t : Nat) => (t : Int))
theorem usV_snoc (us : List Nat) (t : Nat) : usV (us ++ [t]) = usV us ++ [.int .i64 (t : Int)] := by
  unfold usV
  rw [List.map_append, intsV_append]
  rfl
/-- While it ticks. -/
def L2 (b B1 : Nat) (H : Hn) (us : List Nat) (A : Option Addr) (c : Nat) (v : Value) (w0 wr : World) : Prop :=
  ∃ (now : Nat) (s : KSt), v = .int .i64 (now : Int) ∧ now ≤ 32 ∧ Slp us now s ∧ KAt b wr H s ∧ wr.ownsRow B1 3 1 (.slice A us.length c) us.length (usV us) ∧ KeepL b kTs [] [H.bm] w0 wr
/-- While it asks each of them. -/
def L3 (b B1 : Nat) (H : Hn) (us : List Nat) (A : Option Addr) (c : Nat) (s : KSt) (v : Value) (w0 wr : World) : Prop :=
  ∃ j : Nat, v = .int .i64 (j : Int) ∧ j ≤ us.length ∧ KAt b wr H s ∧ wr.ownsRow B1 3 1 (.slice A us.length c) us.length (usV us) ∧ KeepL b kTs [] [H.bm] w0 wr
/-- While the processes are born. -/
def L1 (b B1 : Nat) (H : Hn) (m : Nat) (u v : Value) (w0 wr : World) : Prop :=
  ∃ (us : List Nat) (s : KSt) (A : Option Addr) (c i : Nat), v = .int .i64 (i : Int) ∧ us.length = i ∧ i ≤ m ∧ Slp us 0 s ∧ KAt b wr H s ∧ u = .slice A i c ∧ wr.ownsRow B1 3 1 (.slice A i c) i (usV us) ∧ KeepL b kTs [] [H.bm] w0 wr
set_option maxHeartbeats 8000000 in
set_option maxRecDepth 100000 in
theorem sleepers_walk (hst : ∀ w, Calls Tryz.prog 4 #[] w (StartedPost w)) (zs : List Int) (A : Option Addr) (n c : Nat) (wk : Bool) (w : World) (hr : Reads w w.heap.size 1 A n (intsV zs)) (hn : n ≤ c) (hc : c ≤ maxLen)
    (hz : ∀ x ∈ zs, -9223372036854775808 ≤ x ∧ x ≤ 9223372036854775807) :
    Calls Tryz.prog 3 #[.slice A n c, .bool wk] w fun e w' => e = .returned (.bool true) ∧ Ext w w' := by
  have HR := hide hr
  have HZ := hide hz
  have HST := hide (hst w)
  have hln : zs.length = n := by have := hr.1; rw [intsV_length] at this; omega
  clear hr hz hst hc
  go_enter Tryz.func3, Tryz.ntmps3
  go_wp2_with fail
  refine HST.out.mono ?_
  rintro e w1 ⟨H, vd, rfl, hk1, hx1⟩
  have HK1 := hide hk1
  have HX1 := hide hx1
  obtain ⟨b, hb⟩ : ∃ b, w.heap.size = b := ⟨_, rfl⟩
  rw [hb] at HK1
  have HB := hide hb
  clear hk1 hx1 HST hb
  rcases (show (10 : Int) < (n : Int) ∨ ¬ (10 : Int) < (n : Int) by omega) with h10 | h10
  go_upto_region 6 with fail
  generalize hv33 : Value.slice A 10 c = v33
  generalize hv34 : Value.int .i64 10 = v34
  have hmx : ∃ m : Nat, m ≤ n ∧ m ≤ 10 ∧ v33 = .slice A m c ∧ v34 = .int .i64 (m : Int) := ⟨10, by omega, by omega, hv33.symm, hv34.symm⟩
  clear hv33 hv34
  obtain ⟨m, hm1, hm2, rfl, rfl⟩ := hmx
  rotate_left
  go_upto_region 6 with fail
  generalize hv33 : Value.slice A n c = v33
  generalize hv34 : Value.int .i64 (n : Int) = v34
  have hmx : ∃ m : Nat, m ≤ n ∧ m ≤ 10 ∧ v33 = .slice A m c ∧ v34 = .int .i64 (m : Int) := ⟨n, by omega, by omega, hv33.symm, hv34.symm⟩
  clear hv33 hv34
  obtain ⟨m, hm1, hm2, rfl, rfl⟩ := hmx
  all_goals
    clear h10
    obtain ⟨B1, hB1⟩ : ∃ B1, w1.heap.size = B1 := ⟨_, rfl⟩
    have HCW := hide HK1.out.cwlt
    rw [hB1] at HCW
    have HB1 := hide hB1
    clear hB1
    obtain ⟨i0, hi0, hz0, hz1, hz2⟩ := info_parts int_info2
    go_loopw [8, 35] (L1 b B1 H m · · w1) (fun _ v _ => m - (intOf v).toNat)
    case atStart => exact ⟨[], ks0, none, 0, 0, rfl, rfl, Nat.zero_le _, slp0, HK1.out, rfl, World.ownsRow_nil _ _ _ _, KeepL.refl _ _ _ _ _⟩
    case round =>
      obtain ⟨us, s, A8, c8, i, rfl, hul, him, hsl, hki, rfl, hro, hke⟩ := hrel
      have HUL := hide hul
      have HSL := hide hsl
      have HKI := hide hki
      have HRO := hide hro
      have HKE := hide hke
      clear hul hsl hki hro hke
      by_cases hlt : i < m
      · have hlt' : (i : Int) < (m : Int) := by omega
        have HRW := hide ((HKE.out.ext HX1.out (by rw [HB.out]; exact Nat.le_refl _)).reads HR.out (Nat.le_refl _))
        obtain ⟨ba, oa, rfl, -, -⟩ := HR.out.at1 (by omega)
        have k0 : wr.cell? ⟨ba, oa + i, none⟩ = some (.int .i64 (zs.getD i 0)) := cells_ints HRW.out i (by omega)
        have hzi : -9223372036854775808 ≤ zs.getD i 0 ∧ zs.getD i 0 ≤ 9223372036854775807 := by
          rw [List.getD_eq_getElem?_getD, List.getElem?_eq_getElem (by omega)]
          exact HZ.out _ (List.getElem_mem _)
        have HWI := hide (within_ok (zs.getD i 0) hzi.1 hzi.2 wr)
        generalize zs.getD i 0 = z at *
        clear hzi
        go_wp2_with fail
        refine HWI.out.mono ?_
        rintro e w' ⟨⟨r, hr30, rfl⟩, hw'⟩
        subst hw'
        go_upto_region 9 with fail
        have htr : (1 : Int) + (r : Int) = ((r + 1 : Nat) : Int) := by omega
        rw [htr]
        obtain ⟨t, ht⟩ : ∃ t, r + 1 = t := ⟨_, rfl⟩
        have ht1 : 1 ≤ t := by omega
        have ht30 : t ≤ 30 := by omega
        rw [ht]
        clear htr ht hr30 HWI k0
        have hn9 : us.length ≤ 9 := by have := HUL.out; omega
        have hs1 := HSL.out.n
        have HA := hide (ask_ok HKI.out 1 (by omega) (by omega) (by omega) 2 0 0 HSL.out.z1 0 (by omega) (HSL.out.sg 1 (by omega) (by omega)) _ (.inl rfl) (fun w1 h1 => process_fork h1 (by omega) (by omega)))
        rw [show ((1 : Nat) : Int) = 1 from rfl] at HA
        go_wp2_with fail
        refine HA.out.mono ?_
        rintro e w3 ⟨er, x, y, s2, rfl, ⟨rfl, hx, rfl⟩, hk3, hke3⟩
        obtain ⟨p, hp⟩ : ∃ p : Nat, us.length + 2 = p := ⟨_, rfl⟩
        obtain rfl : x = (p : Int) := by omega
        have HK3 := hide hk3
        have HKE3 := hide (HKE.out.trans hke3)
        have HRO3 := hide (hke3.own HRO.out (by decide) (by simp))
        simp only [ansV, ansL]
        clear hk3 hke3 HA hx HKI HKE HRO
        go_upto_region 10 with fail
        have hx4 := (Ext.refl w3).alloc (.cells #[.int .i64 0, .int .i64 (p : Int), .int .i64 y, .slice none 0 0, .slice none 0 0, .int .i64 0, .int .i64 0, .int .i64 0, .int .i64 0, .int .i64 0, .int .i64 0] 34)
        have HBX := hide (Blk.new w3 34 #[.int .i64 0, .int .i64 (p : Int), .int .i64 y, .slice none 0 0, .slice none 0 0, .int .i64 0, .int .i64 0, .int .i64 0, .int .i64 0, .int .i64 0, .int .i64 0])
        have HK4 := hide (HK3.out.ext hx4)
        have HKE4 := hide (HKE3.out.trans (KeepL.of hx4 _ _ _ _))
        have HRO4 := hide (hx4.own HRO3.out)
        obtain ⟨g4, hg4⟩ : ∃ x, w3.heap.size = x := ⟨_, rfl⟩
        rw [hg4] at HBX ⊢
        clear hg4 hx4 HK3 HKE3 HRO3
        generalize w3.alloc _ = w4 at *
        have c1 : w4.cell? ⟨g4, 1, none⟩ = some (.int .i64 (p : Int)) := HBX.out.cell 1
        have HS := hide (ask_ok HK4.out p (by omega) (by show p ≤ s.n + 1; omega) (by show s.n + 1 ≤ 16; omega) 34 (t : Int) 0 (by show updN s.zz (s.n + 1) false p = false; rw [show p = s.n + 1 by omega]; exact updN_same _ _ _) 0 (by omega) (by show updN s.sg (s.n + 1) (0, 0) p = (0, 0); rw [show p = s.n + 1 by omega]; exact updN_same _ _ _) _ (.inr (.inl rfl))
          (fun w1 h1 => process_sleep h1 p (by omega) (by show p ≤ s.n + 1; omega) (by show s.n + 1 ≤ 16; omega) t ht1 (by omega) (by show s.now ≤ 1000; have := HSL.out.now_; omega) HSL.out.tm (by have := HSL.out.len; show s.ls.length ≤ 20; omega) (fun q hq => by have := HSL.out.ids q hq; omega)))
        go_wp2_with fail
        refine HS.out.mono ?_
        rintro e w5 ⟨er, x, y5, s5, rfl, ⟨rfl, i5, htm, rfl⟩, hk5, hke5⟩
        have HSL5 := hide (HSL.out.more ht1 ht30 (i := i5) (by rw [hp]; exact htm) HSL.out.now_)
        have HK5 := hide (show KAt b w5 H ((s.born.timer i5 (s.now + t) (us.length + 2)).slept (us.length + 2) true) from by rw [hp]; exact hk5)
        have HKE5 := hide (HKE4.out.trans hke5)
        have HRO5 := hide (hke5.own HRO4.out (by decide) (by simp))
        have HBX5 := hide (hke5.blk HBX.out (by decide) (by simp))
        simp only [ansV, ansL]
        clear hk5 hke5 HS HK4 HKE4 HRO4 HBX htm c1
        go_upto_region 11 with fail
        have hx6 := (Ext.refl w5).alloc (.cells #[.int .i64 0, .int .i64 x, .int .i64 y5, .slice none 0 0, .slice none 0 0, .int .i64 0, .int .i64 0, .int .i64 0, .int .i64 0, .int .i64 0, .int .i64 0] 34)
        have HBY := hide (Blk.new w5 34 #[.int .i64 0, .int .i64 x, .int .i64 y5, .slice none 0 0, .slice none 0 0, .int .i64 0, .int .i64 0, .int .i64 0, .int .i64 0, .int .i64 0, .int .i64 0])
        have HK6 := hide (HK5.out.ext hx6)
        have HKE6 := hide (HKE5.out.trans (KeepL.of hx6 _ _ _ _))
        have HRO6 := hide (hx6.own HRO5.out)
        have HBX6 := hide (HBX5.out.ext hx6)
        obtain ⟨g6, hg6⟩ : ∃ x, w5.heap.size = x := ⟨_, rfl⟩
        rw [hg6] at HBY ⊢
        clear hg6 hx6 HK5 HKE5 HRO5 HBX5
        generalize w5.alloc _ = w6 at *
        have a0 : w6.cell? ⟨g4, 0, none⟩ = some (.int .i64 0) := HBX6.out.cell 0
        have a1 : w6.cell? ⟨g4, 1, none⟩ = some (.int .i64 (p : Int)) := HBX6.out.cell 1
        have b0 : w6.cell? ⟨g6, 0, none⟩ = some (.int .i64 0) := HBY.out.cell 0
        have HX7 := hide ((Ext.refl w6).alloc (.cells #[.int .i64 0, .int .i64 0] 28))
        have HGD := hide (good_ok (w6.heap.size + 1) w6.heap.size 0 2 2 (w6.alloc (.cells #[.int .i64 0, .int .i64 0] 28)) (by
          have := (Blk.new w6 28 #[.int .i64 0, .int .i64 0]).reads
          rw [show (w6.alloc (.cells #[.int .i64 0, .int .i64 0] 28)).heap.size = w6.heap.size + 1 by simp] at this
          exact this) (by omega))
        go_wp2_with fail
        refine HGD.out.mono ?_
        rintro e w7 ⟨rfl, hw7⟩
        have HK7 := hide (HK6.out.ext HX7.out)
        have HKE7 := hide (HKE6.out.trans (KeepL.of HX7.out _ _ _ _))
        have HRO7 := hide (HX7.out.own HRO6.out)
        have a17 := HX7.out.cell a1
        rw [hw7] at HK7 HKE7 HRO7 a17
        clear hw7 HK6 HKE6 HRO6 HGD HX7 a0 a1 b0 HBX6 HBY
        have hpi : ((p : Int) == (i : Int) + 2) = true := beq_iff_eq.2 (by have := HUL.out; omega)
        go_upto_region 13 with fail
        have hx8 := (Ext.refl w7).alloc (.cells #[.int .i64 (t : Int)] 3)
        have HK8 := hide (HK7.out.ext hx8)
        have HKE8 := hide (HKE7.out.trans (KeepL.of hx8 _ _ _ _))
        have HRO8 := hide (hx8.own HRO7.out)
        have HRD := hide (by
          have := (Blk.new w7 3 #[.int .i64 (t : Int)]).reads
          exact (this : Reads (w7.alloc (.cells #[.int .i64 (t : Int)] 3)) (w7.alloc (.cells #[.int .i64 (t : Int)] 3)).heap.size 1 (some ⟨w7.heap.size, 0, none⟩) 1 [.int .i64 (t : Int)]))
        have HBB := hide (show B1 ≤ (w7.alloc (.cells #[.int .i64 (t : Int)] 3)).heap.size by rw [← HB1.out]; exact Nat.le_trans HKE7.out.size hx8.size)
        have hi9 : i ≤ 9 := by have := HUL.out; omega
        clear hx8 HK7 HKE7 HRO7 hpi a17
        go_wp2_with (at_builtin; refine wpList_append_any _ rfl (.tmp 66) (.tmp 68) 22 rfl B1 3 i0 _ 1 8 Tryz.underlying22 hi0 hz0 hz1 hz2 rfl (by omega) (.slice A8 i c8) i (usV us) rfl HRO8.out _ (some ⟨w7.heap.size, 0, none⟩) 1 1 [.int .i64 (t : Int)] rfl HRD.out (by intro u hu; simp only [List.mem_cons, List.not_mem_nil, or_false] at hu; subst hu; rfl) (by simp only [maxLen]; omega) (by omega) HBB.out ?_; intro A9 c9 w9 hown9 hg9 hadr9)
        have HK9 := hide (HK8.out.grow HRO8.out hg9 (by
          cases hcb : H.cw.ownBlock with
          | none => exact .inl rfl
          | some k => exact .inr (fun e => by
              have h1 := HCW.out k hcb
              have h2 := (HRO8.out.lt k e.symm).1
              omega)))
        have HKE9 := hide (HKE8.out.freshG hg9 (fun k hk => by rw [HB1.out]; exact (HRO8.out.lt k hk).1))
        rw [← usV_snoc] at hown9
        have HO9 := hide hown9
        clear hown9 hg9 hadr9 HK8 HKE8 HRO8 HRD HBB
        go_roundw
        case rel => exact ⟨us ++ [t], _, A9, c9, i + 1, by first | rfl | go_num, by rw [List.length_append, HUL.out]; rfl, by omega, HSL5.out, HK9.out, rfl, HO9.out, HKE9.out⟩
        case measure => simp [intOf]; omega
      · obtain rfl : i = m := by omega
        have hul := HUL.out
        subst hul
        have hu10 : us.length ≤ 10 := hm2
        clear HK1 HR HZ HUL hlt hln
        go_upto_region 16 with fail
        go_loopw [71] (L2 b B1 H us A8 c8 · w1) (fun v _ => 32 - (intOf v).toNat)
        case atStart => exact ⟨0, s, rfl, by omega, HSL.out, HKI.out, HRO.out, HKE.out⟩
        case round =>
          obtain ⟨now, s2, rfl, hnow, hsl2, hki2, hro2, hke2⟩ := hrel
          have HSL2 := hide hsl2
          have HKI2 := hide hki2
          have HRO2 := hide hro2
          have HKE2 := hide hke2
          clear hsl2 hki2 hro2 hke2
          by_cases hlt : now < 32
          · have hlt' : (now : Int) < 32 := by omega
            go_upto_region 19 with fail
            go_loopw [76] (L3 b B1 H us A8 c8 s2 · w1) (fun v _ => us.length - (intOf v).toNat)
            case atStart => exact ⟨0, rfl, Nat.zero_le _, HKI2.out, HRO2.out, HKE2.out⟩
            case round =>
              obtain ⟨j, rfl, hj, hki3, hro3, hke3⟩ := hrel
              have HKI3 := hide hki3
              have HRO3 := hide hro3
              have HKE3 := hide hke3
              have hs2 := HSL2.out.n
              clear hki3 hro3 hke3
              by_cases hjl : j < us.length
              · have hjl' : (j : Int) < (us.length : Int) := by omega
                obtain ⟨t, htj⟩ : ∃ t, us[j]? = some t := ⟨_, List.getElem?_eq_getElem hjl⟩
                obtain ⟨ga, hA, -, -, -, -⟩ := own_addr HRO3.out (by omega)
                subst hA
                have k0 : wr.cell? ⟨ga, j, none⟩ = some (.int .i64 (t : Int)) := by
                  have h := (HRO3.out.cells (g := ga) (by rfl)) j (.int .i64 (t : Int)) (by
                    unfold usV intsV
                    rw [List.map_map, List.getElem?_map, htj]
                    rfl)
                  rw [add_lit, Nat.zero_add] at h
                  exact h
                have HON := hide (HSL2.out.on j t htj)
                have HSG := hide (HSL2.out.sg (j + 2) (by omega) (by omega))
                have hp2 : ((j + 2 : Nat) : Int) = (j : Int) + 2 := by omega
                by_cases hlz : now < t
                · have HA := hide (ask_asleep HKI3.out (j + 2) (by omega) (by omega) (by omega) 30 0 0 (by rw [HON.out, decide_eq_true hlz]))
                  rw [hp2] at HA
                  have hge : decide ((t : Int) ≤ (now : Int)) = false := decide_eq_false (by omega)
                  clear hp2 HON HSG
                  go_wp2_with fail
                  refine HA.out.mono ?_
                  rintro e w5 ⟨er, x, y, s5, rfl, ⟨rfl, rfl⟩, hk5, hke5⟩
                  have HK5 := hide hk5
                  have HKE5 := hide (HKE3.out.trans hke5)
                  have HRO5 := hide (hke5.own HRO3.out (by decide) (by simp))
                  simp only [ansV, ansL]
                  clear hk5 hke5 HA HKI3 HKE3 HRO3 k0
                  go_upto_region 22 with fail
                  have hx6 := (Ext.refl w5).alloc (.cells #[.int .i64 8, .int .i64 x, .int .i64 y, .slice none 0 0, .slice none 0 0, .int .i64 0, .int .i64 0, .int .i64 0, .int .i64 0, .int .i64 0, .int .i64 0] 34)
                  have b0 : (w5.alloc (.cells #[.int .i64 8, .int .i64 x, .int .i64 y, .slice none 0 0, .slice none 0 0, .int .i64 0, .int .i64 0, .int .i64 0, .int .i64 0, .int .i64 0, .int .i64 0] 34)).cell? ⟨w5.heap.size, 0, none⟩ = some (.int .i64 8) := (Blk.new w5 34 _).cell 0
                  have HK6 := hide (HK5.out.ext hx6)
                  have HKE6 := hide (HKE5.out.trans (KeepL.of hx6 _ _ _ _))
                  have HRO6 := hide (hx6.own HRO5.out)
                  obtain ⟨g6, hg6⟩ : ∃ x, w5.heap.size = x := ⟨_, rfl⟩
                  rw [hg6] at b0 ⊢
                  clear hg6 hx6 HK5 HKE5 HRO5
                  generalize w5.alloc _ = w6 at *
                  go_wp2_with fail
                  go_roundw
                  case rel => exact ⟨j + 1, by first | rfl | go_num, by omega, HK6.out, HRO6.out, HKE6.out⟩
                  case measure => simp [intOf]; omega
                · have HA := hide (ask_ok HKI3.out (j + 2) (by omega) (by omega) (by omega) 30 0 0 (by rw [HON.out, decide_eq_false hlz]) 0 (by omega) HSG.out _ (.inr (.inr (.inl rfl))) (fun w1 h1 => process_pid h1 (j + 2) (by omega) (by omega) (by omega)))
                  rw [hp2] at HA
                  have hge : decide ((t : Int) ≤ (now : Int)) = true := decide_eq_true (by omega)
                  clear hp2 HON HSG
                  go_wp2_with fail
                  refine HA.out.mono ?_
                  rintro e w5 ⟨er, x, y, s5, rfl, ⟨rfl, rfl⟩, hk5, hke5⟩
                  have HK5 := hide hk5
                  have HKE5 := hide (HKE3.out.trans hke5)
                  have HRO5 := hide (hke5.own HRO3.out (by decide) (by simp))
                  simp only [ansV, ansL]
                  clear hk5 hke5 HA HKI3 HKE3 HRO3 k0
                  go_upto_region 22 with fail
                  have hx6 := (Ext.refl w5).alloc (.cells #[.int .i64 0, .int .i64 x, .int .i64 y, .slice none 0 0, .slice none 0 0, .int .i64 0, .int .i64 0, .int .i64 0, .int .i64 0, .int .i64 0, .int .i64 0] 34)
                  have b0 : (w5.alloc (.cells #[.int .i64 0, .int .i64 x, .int .i64 y, .slice none 0 0, .slice none 0 0, .int .i64 0, .int .i64 0, .int .i64 0, .int .i64 0, .int .i64 0, .int .i64 0] 34)).cell? ⟨w5.heap.size, 0, none⟩ = some (.int .i64 0) := (Blk.new w5 34 _).cell 0
                  have HK6 := hide (HK5.out.ext hx6)
                  have HKE6 := hide (HKE5.out.trans (KeepL.of hx6 _ _ _ _))
                  have HRO6 := hide (hx6.own HRO5.out)
                  obtain ⟨g6, hg6⟩ : ∃ x, w5.heap.size = x := ⟨_, rfl⟩
                  rw [hg6] at b0 ⊢
                  clear hg6 hx6 HK5 HKE5 HRO5
                  generalize w5.alloc _ = w6 at *
                  go_wp2_with fail
                  go_roundw
                  case rel => exact ⟨j + 1, by first | rfl | go_num, by omega, HK6.out, HRO6.out, HKE6.out⟩
                  case measure => simp [intOf]; omega
              · have HTI := hide (ktick_ok HKI3.out (by rw [hs2]; omega) HSL2.out.tm (by have := HSL2.out.len; omega) (fun q hq => by have := HSL2.out.ids q hq; rw [hs2]; omega) (by rw [HSL2.out.now_]; omega))
                go_wp2_with fail
                refine HTI.out.mono ?_
                rintro e w5 ⟨rfl, ⟨k, hlo, hhi, hk5⟩, hke5⟩
                have HSL5 := hide (HSL2.out.tick hlo hhi)
                have HK5 := hide hk5
                have HKE5 := hide (HKE3.out.trans hke5)
                have HRO5 := hide (hke5.own HRO3.out (by decide) (by simp))
                clear hk5 hke5 hlo hhi HTI HKI3 HKE3 HRO3 HSL2 HKI2 HRO2 HKE2
                go_wp2_with fail
                go_roundw
                case rel => exact ⟨now + 1, _, by first | rfl | go_num, by omega, HSL5.out, HK5.out, HRO5.out, HKE5.out⟩
                case measure => simp [intOf]; omega
          · obtain rfl : now = 32 := by omega
            have HXE := hide (HKE2.out.ext HX1.out (by rw [HB.out]; exact Nat.le_refl _))
            have hov := HSL2.out.over
            have hs2 := HSL2.out.n
            by_cases hu0 : us.length = 0
            · have hz0 : ((us.length : Int) == 0) = true := beq_iff_eq.2 (by omega)
              clear HKI2 HSL2 HRO2 HKE2 HCW HB1 HB
              go_wp2_with fail
              go_ret
              exact ⟨rfl, HXE.out⟩
            have hz0 : ((us.length : Int) == 0) = false := beq_eq_false_iff_ne.2 (by omega)
            cases wk with
            | false =>
              clear HKI2 HSL2 HRO2 HKE2 HCW HB1 HB
              go_wp2_with fail
              go_ret
              exact ⟨rfl, HXE.out⟩
            | true =>
              obtain ⟨t, htj⟩ : ∃ t, us[0]? = some t := ⟨_, List.getElem?_eq_getElem (by omega)⟩
              have hzz : s2.zz 2 = false := by
                have h := HSL2.out.on 0 t htj
                have h2 := HSL2.out.ul t (List.mem_of_getElem? htj)
                rw [show (2 : Nat) = 0 + 2 from rfl, h, decide_eq_false (by omega)]
              have hz1 : s2.zz 1 = false := HSL2.out.z1
              have hsg2 : s2.sg 2 = (0, 0) := HSL2.out.sg 2 (by omega) (by omega)
              have hsg1 : s2.sg 1 = (0, 0) := HSL2.out.sg 1 (by omega) (by omega)
              have hnw : s2.now = 32 := HSL2.out.now_
              clear HSL2 HRO2 htj
              have HA := hide (ask_ok HKI2.out 2 (by omega) (by omega) (by omega) 22 3 64 hzz 0 (by omega) hsg2 _ (.inr (.inr (.inr (.inr rfl)))) (fun w1 h1 => process_handle h1 (by omega) (by omega) hsg2))
              rw [show ((2 : Nat) : Int) = 2 from rfl] at HA
              go_wp2_with fail
              refine HA.out.mono ?_
              rintro e v1 ⟨er, x1, y1, s3, rfl, ⟨rfl, rfl⟩, hk5, hke5⟩
              have HK1a := hide hk5
              have HE1a := hide (HKE2.out.trans hke5)
              simp only [ansV, ansL]
              clear hk5 hke5 HA HKI2 HKE2
              go_upto_region 30 with fail
              have hx6 := (Ext.refl v1).alloc (.cells #[.int .i64 0, .int .i64 x1, .int .i64 y1, .slice none 0 0, .slice none 0 0, .int .i64 0, .int .i64 0, .int .i64 0, .int .i64 0, .int .i64 0, .int .i64 0] 34)
              have HBX1 := hide (Blk.new v1 34 #[.int .i64 0, .int .i64 x1, .int .i64 y1, .slice none 0 0, .slice none 0 0, .int .i64 0, .int .i64 0, .int .i64 0, .int .i64 0, .int .i64 0, .int .i64 0])
              have HK1 := hide (HK1a.out.ext hx6)
              have HE1 := hide (HE1a.out.trans (KeepL.of hx6 _ _ _ _))
              obtain ⟨g1, hg6⟩ : ∃ x, v1.heap.size = x := ⟨_, rfl⟩
              rw [hg6] at HBX1 ⊢
              clear hg6 hx6 HK1a HE1a
              generalize v1.alloc _ = V1 at *
              have HA := hide (ask_ok HK1.out 2 (by omega) (show 2 ≤ s2.n by omega) (show s2.n ≤ 16 by omega) 34 ((900 : Nat) : Int) 0 hzz 64 (by omega) (KSt.sig_same _ _ _) _ (.inr (.inl rfl)) (fun w1 h1 => process_sleep h1 2 (by omega) (show 2 ≤ s2.n by omega) (show s2.n ≤ 16 by omega) 900 (by omega) (by omega) (show s2.now ≤ 1000 by omega) (by show Timely s2.ls; rw [hov]; exact List.Pairwise.nil) (by show s2.ls.length ≤ 20; rw [hov]; exact Nat.zero_le _) (fun q hq => by have hq' : q ∈ s2.ls := hq; rw [hov] at hq'; cases hq')))
              rw [show ((2 : Nat) : Int) = 2 from rfl, show ((900 : Nat) : Int) = 900 from rfl] at HA
              go_wp2_with fail
              refine HA.out.mono ?_
              rintro e v2 ⟨er, x2, y2, s4, rfl, ⟨rfl, i5, htm, rfl⟩, hk5, hke5⟩
              have HK2a := hide hk5
              have HE2a := hide (HE1.out.trans hke5)
              replace HBX1 := hide (hke5.blk HBX1.out (by decide) (by simp))
              simp only [ansV, ansL]
              clear hk5 hke5 HA HK1 HE1
              go_upto_region 31 with fail
              have hx6 := (Ext.refl v2).alloc (.cells #[.int .i64 0, .int .i64 x2, .int .i64 y2, .slice none 0 0, .slice none 0 0, .int .i64 0, .int .i64 0, .int .i64 0, .int .i64 0, .int .i64 0, .int .i64 0] 34)
              have HBX2 := hide (Blk.new v2 34 #[.int .i64 0, .int .i64 x2, .int .i64 y2, .slice none 0 0, .slice none 0 0, .int .i64 0, .int .i64 0, .int .i64 0, .int .i64 0, .int .i64 0, .int .i64 0])
              replace HBX1 := hide (HBX1.out.ext hx6)
              have HK2 := hide (HK2a.out.ext hx6)
              have HE2 := hide (HE2a.out.trans (KeepL.of hx6 _ _ _ _))
              obtain ⟨g2, hg6⟩ : ∃ x, v2.heap.size = x := ⟨_, rfl⟩
              rw [hg6] at HBX2 ⊢
              clear hg6 hx6 HK2a HE2a
              generalize v2.alloc _ = V2 at *
              clear htm
              obtain ⟨s4, hs4⟩ : ∃ s4, s4 = ((s2.sig 2 (0, 64)).timer i5 ((s2.sig 2 (0, 64)).now + 900) 2).slept 2 true := ⟨_, rfl⟩
              rw [← hs4] at HK2
              have n4 : s4.n = s2.n := by rw [hs4]; rfl
              have z41 : s4.zz 1 = false := by rw [hs4]; exact (KSt.slept_other _ 2 1 true (by omega)).trans hz1
              have z42 : s4.zz 2 = true := by rw [hs4]; exact KSt.slept_same _ 2 true
              have g41 : s4.sg 1 = (0, 0) := by rw [hs4]; exact (KSt.sig_other s2 2 1 (0, 64) (by omega)).trans hsg1
              have g42 : s4.sg 2 = (0, 64) := by rw [hs4]; exact KSt.sig_same s2 2 (0, 64)
              have l4 : s4.ls.length ≤ 20 := by
                rw [hs4]
                show (s2.ls.take i5 ++ (((s2.sig 2 (0, 64)).now + 900, 2) :: s2.ls.drop i5)).length ≤ 20
                rw [hov]
                simp
              clear hs4
              have HA := hide (ask_ok HK2.out 1 (by omega) (by omega) (by omega) 20 2 3 z41 0 (by omega) g41 _ (.inr (.inr (.inr (.inl rfl)))) (fun w1 h1 => process_kill h1 (by omega) (by omega) g42 z42 l4))
              rw [show ((1 : Nat) : Int) = 1 from rfl] at HA
              go_wp2_with fail
              refine HA.out.mono ?_
              rintro e v3 ⟨er, x3, y3, s5, rfl, ⟨rfl, ls5, rfl⟩, hk5, hke5⟩
              have HK3a := hide hk5
              have HE3a := hide (HE2.out.trans hke5)
              replace HBX1 := hide (hke5.blk HBX1.out (by decide) (by simp))
              replace HBX2 := hide (hke5.blk HBX2.out (by decide) (by simp))
              simp only [ansV, ansL]
              clear hk5 hke5 HA HK2 HE2
              go_upto_region 32 with fail
              have hx6 := (Ext.refl v3).alloc (.cells #[.int .i64 0, .int .i64 x3, .int .i64 y3, .slice none 0 0, .slice none 0 0, .int .i64 0, .int .i64 0, .int .i64 0, .int .i64 0, .int .i64 0, .int .i64 0] 34)
              have HBX3 := hide (Blk.new v3 34 #[.int .i64 0, .int .i64 x3, .int .i64 y3, .slice none 0 0, .slice none 0 0, .int .i64 0, .int .i64 0, .int .i64 0, .int .i64 0, .int .i64 0, .int .i64 0])
              replace HBX1 := hide (HBX1.out.ext hx6)
              replace HBX2 := hide (HBX2.out.ext hx6)
              have HK3 := hide (HK3a.out.ext hx6)
              have HE3 := hide (HE3a.out.trans (KeepL.of hx6 _ _ _ _))
              obtain ⟨g3, hg6⟩ : ∃ x, v3.heap.size = x := ⟨_, rfl⟩
              rw [hg6] at HBX3 ⊢
              clear hg6 hx6 HK3a HE3a
              generalize v3.alloc _ = V3 at *
              obtain ⟨s5, hs5⟩ : ∃ s5, s5 = { (s4.sig 2 (8, 64)).slept 2 false with ls := ls5 } := ⟨_, rfl⟩
              rw [← hs5] at HK3
              have n5 : s5.n = s2.n := by rw [hs5]; exact n4
              have z52 : s5.zz 2 = false := by rw [hs5]; exact KSt.slept_same (s4.sig 2 (8, 64)) 2 false
              have g52 : s5.sg 2 = (8, 64) := by rw [hs5]; exact KSt.sig_same s4 2 (8, 64)
              clear hs5
              have HA := hide (ask_signal HK3.out 2 (by omega) (by omega) (by omega) 30 0 0 (by omega) z52 g52)
              rw [show ((2 : Nat) : Int) = 2 from rfl] at HA
              go_wp2_with fail
              refine HA.out.mono ?_
              rintro e v4 ⟨er, x4, y4, s6, rfl, ⟨rfl, rfl, rfl⟩, hk5, hke5⟩
              have HK4a := hide hk5
              have HE4a := hide (HE3.out.trans hke5)
              replace HBX1 := hide (hke5.blk HBX1.out (by decide) (by simp))
              replace HBX2 := hide (hke5.blk HBX2.out (by decide) (by simp))
              replace HBX3 := hide (hke5.blk HBX3.out (by decide) (by simp))
              simp only [ansV, ansL]
              clear hk5 hke5 HA HK3 HE3
              go_upto_region 33 with fail
              have hx6 := (Ext.refl v4).alloc (.cells #[.int .i64 19, .int .i64 3, .int .i64 y4, .slice none 0 0, .slice none 0 0, .int .i64 0, .int .i64 0, .int .i64 0, .int .i64 0, .int .i64 0, .int .i64 0] 34)
              have HBX4 := hide (Blk.new v4 34 #[.int .i64 19, .int .i64 3, .int .i64 y4, .slice none 0 0, .slice none 0 0, .int .i64 0, .int .i64 0, .int .i64 0, .int .i64 0, .int .i64 0, .int .i64 0])
              replace HBX1 := hide (HBX1.out.ext hx6)
              replace HBX2 := hide (HBX2.out.ext hx6)
              replace HBX3 := hide (HBX3.out.ext hx6)
              have HK4 := hide (HK4a.out.ext hx6)
              have HE4 := hide (HE4a.out.trans (KeepL.of hx6 _ _ _ _))
              obtain ⟨g4, hg6⟩ : ∃ x, v4.heap.size = x := ⟨_, rfl⟩
              rw [hg6] at HBX4 ⊢
              clear hg6 hx6 HK4a HE4a
              generalize v4.alloc _ = V4 at *
              have HA := hide (ask_ok HK4.out 2 (by omega) (show 2 ≤ s5.n by omega) (show s5.n ≤ 16 by omega) 30 0 0 z52 64 (by omega) (KSt.sig_same _ _ _) _ (.inr (.inr (.inl rfl))) (fun w1 h1 => process_pid h1 2 (by omega) (show 2 ≤ s5.n by omega) (show s5.n ≤ 16 by omega)))
              rw [show ((2 : Nat) : Int) = 2 from rfl] at HA
              go_wp2_with fail
              refine HA.out.mono ?_
              rintro e v5 ⟨er, x5, y5, s7, rfl, ⟨rfl, rfl⟩, hk5, hke5⟩
              have HK5a := hide hk5
              have HE5a := hide (HE4.out.trans hke5)
              replace HBX1 := hide (hke5.blk HBX1.out (by decide) (by simp))
              replace HBX2 := hide (hke5.blk HBX2.out (by decide) (by simp))
              replace HBX3 := hide (hke5.blk HBX3.out (by decide) (by simp))
              replace HBX4 := hide (hke5.blk HBX4.out (by decide) (by simp))
              simp only [ansV, ansL]
              clear hk5 hke5 HA HK4 HE4
              go_upto_region 34 with fail
              have hx6 := (Ext.refl v5).alloc (.cells #[.int .i64 0, .int .i64 x5, .int .i64 y5, .slice none 0 0, .slice none 0 0, .int .i64 0, .int .i64 0, .int .i64 0, .int .i64 0, .int .i64 0, .int .i64 0] 34)
              have HBX5 := hide (Blk.new v5 34 #[.int .i64 0, .int .i64 x5, .int .i64 y5, .slice none 0 0, .slice none 0 0, .int .i64 0, .int .i64 0, .int .i64 0, .int .i64 0, .int .i64 0, .int .i64 0])
              replace HBX1 := hide (HBX1.out.ext hx6)
              replace HBX2 := hide (HBX2.out.ext hx6)
              replace HBX3 := hide (HBX3.out.ext hx6)
              replace HBX4 := hide (HBX4.out.ext hx6)
              have HK5 := hide (HK5a.out.ext hx6)
              have HE5 := hide (HE5a.out.trans (KeepL.of hx6 _ _ _ _))
              obtain ⟨g5, hg6⟩ : ∃ x, v5.heap.size = x := ⟨_, rfl⟩
              rw [hg6] at HBX5 ⊢
              clear hg6 hx6 HK5a HE5a
              generalize v5.alloc _ = V5 at *
              have a1 : V5.cell? ⟨g1, 0, none⟩ = some (.int .i64 0) := HBX1.out.cell 0
              have a2 : V5.cell? ⟨g2, 0, none⟩ = some (.int .i64 0) := HBX2.out.cell 0
              have a3 : V5.cell? ⟨g3, 0, none⟩ = some (.int .i64 0) := HBX3.out.cell 0
              have a5 : V5.cell? ⟨g5, 0, none⟩ = some (.int .i64 0) := HBX5.out.cell 0
              have HX7 := hide ((Ext.refl V5).alloc (.cells #[.int .i64 0, .int .i64 0, .int .i64 0, .int .i64 0] 28))
              have HGD := hide (good_ok (V5.heap.size + 1) V5.heap.size 0 4 4 (V5.alloc (.cells #[.int .i64 0, .int .i64 0, .int .i64 0, .int .i64 0] 28)) (by
                have := (Blk.new V5 28 #[.int .i64 0, .int .i64 0, .int .i64 0, .int .i64 0]).reads
                rw [show (V5.alloc (.cells #[.int .i64 0, .int .i64 0, .int .i64 0, .int .i64 0] 28)).heap.size = V5.heap.size + 1 by simp] at this
                exact this) (by omega))
              go_wp2_with fail
              refine HGD.out.mono ?_
              rintro e w7 ⟨rfl, hw7⟩
              have b40 := HX7.out.cell (show V5.cell? ⟨g4, 0, none⟩ = some (.int .i64 19) from HBX4.out.cell 0)
              have b41 := HX7.out.cell (show V5.cell? ⟨g4, 1, none⟩ = some (.int .i64 3) from HBX4.out.cell 1)
              have HEF := hide ((HE5.out.trans (KeepL.of HX7.out _ _ _ _)).ext HX1.out (by rw [HB.out]; exact Nat.le_refl _))
              rw [hw7] at b40 b41 HEF
              clear hw7 HGD HX7 a1 a2 a3 a5 HBX1 HBX2 HBX3 HBX4 HBX5 HK5 HE5 HXE
              go_wp2_with fail
              go_ret
              exact ⟨rfl, HEF.out⟩
end Go.Proofs.YthmojneobkaolaaGreatDoor
