/- boot.Make of no files. -/
import Derived.Test.YthmojneobkaolaaGreatDoorTpBootC
import Derived.Lib.BufferWrite
import Derived.Test.YthmojneobkaolaaGreatDoorTpSpace
import Derived.Great.BuildSlice
import Derived.Test.YthmojneobkaolaaGreatDoorDrawH
import Derived.Test.YthmojneobkaolaaGreatDoorPop
import Derived.Lib.AppendZerosOnto
namespace Go.Proofs.YthmojneobkaolaaGreatDoor
open Go.RowKit
set_option linter.unusedVariables false

def mark1B : Bt := 114 :: 105 :: 110 :: 103 :: 1 :: zB 59
def markB : Bt := 114 :: 105 :: 110 :: 103 :: 1 :: 0 :: 1 :: zB 57
theorem markB_len : markB.length = 64 := rfl
set_option maxHeartbeats 4000000 in
set_option maxRecDepth 100000 in
theorem mark_ok (w : World) : Calls Tryz.prog 57 #[.int .i64 256] w fun e w' => ∃ g, e = .returned (.slice (some ⟨g, 0, none⟩) 64 64) ∧ w.heap.size ≤ g ∧ Blk w' g 5 (bytesV markB).toArray ∧ Ext w w' := by
  have hmk := run_made 64 (by omega) w
  change (Instr.makeSlice 29 (.int .i64 64) (.int .i64 64)).run Tryz.prog w = .ok (.slice (some ⟨w.heap.size, 0, none⟩) 64 64) (w.alloc (.cells (bytesV (zB 64)).toArray 5)) at hmk
  have HB := hide (Blk.new w 5 (bytesV (zB 64)).toArray)
  have HX := hide ((Ext.refl w).alloc (.cells (bytesV (zB 64)).toArray 5))
  go_enter Tryz.func57, Tryz.ntmps57
  go_upto_region 2 with fail
  clear hmk
  obtain ⟨g, hg⟩ : ∃ g, w.heap.size = g := ⟨_, rfl⟩
  have HG := hide (show w.heap.size ≤ g by omega)
  rw [hg] at HB ⊢
  clear hg
  generalize w.alloc _ = W at *
  have hsz1 : (Tryz.prog.info? 5).map (·.size) = some 1 := by kernel_rfl
  have hcp : ∀ ty, (Builtin.copy_ #[29, 9] ty #[.slice (some ⟨g, 0, none⟩) 64 64, .string { data := #[114, 105, 110, 103, 1] }]).run Tryz.prog W = .ok (goInt 5) (W.setRow g (bytesV mark1B).toArray) := fun ty => by
    have := Lib.run_copy_row_string (P := Tryz.prog) W 29 9 ty 5 g 0 64 64 { data := #[114, 105, 110, 103, 1] } (bytesV (zB 64)).toArray 5 Tryz.underlying29 hsz1 HB.out (by decide) (by decide)
    exact this
  have HB1 := hide (setRow_blk HB.out (bytesV mark1B).toArray)
  have HX1 := hide (HX.out.grown (setRow_grown (World.grownBy.refl W _) (bytesV mark1B).toArray : W.grownBy (W.setRow g (bytesV mark1B).toArray) (some g)) (fun j hj => by injection hj with hj; subst hj; exact HG.out))
  go_upto_region 3 with (at_builtin; refine wpList_copy_eqN _ rfl _ _ 29 9 rfl _ _ rfl rfl (hcp _) ?_)
  clear hcp hsz1 HB HX
  generalize W.setRow _ _ = W1 at *
  have c5 : W1.cell? ⟨g, 5, none⟩ = some (.int .u8 0) := HB1.out.cell 5
  have c6 : W1.cell? ⟨g, 6, none⟩ = some (.int .u8 0) := HB1.out.cell 6
  have f5 := HB1.out.frozen 5
  have f6 := HB1.out.frozen 6
  have u0 : IntKind.u8.wrap 256 = 0 := by decide
  have u1 : IntKind.u8.wrap 1 = 1 := by decide
  go_wp2_with fail
  go_ret
  exact ⟨_, rfl, HG.out, (HB1.out.set_ 5 (.int .u8 0)).set_ 6 (.int .u8 1), (HX1.out.setCell (p := ⟨g, 5, none⟩) HG.out _).setCell (p := ⟨g, 6, none⟩) HG.out _⟩
set_option maxRecDepth 100000 in
theorem quotaright_ok (w : World) : Calls Tryz.prog 205 #[.slice none 0 0] w fun e w' => e = .returned (.int .i64 0) ∧ w' = w := by
  go_enter Tryz.func205, Tryz.ntmps205
  go_wp2_with fail
  go_loopw [10] (fun v wr => v = .int .i64 0 ∧ wr = w) (fun _ _ => 0)
  case atStart => exact ⟨rfl, rfl⟩
  case round =>
    obtain ⟨rfl, rfl⟩ := hrel
    go_wp2_with fail
    go_ret
    exact ⟨rfl, rfl⟩
set_option maxHeartbeats 4000000 in
set_option maxRecDepth 100000 in
theorem quotapack_ok (w : World) : Calls Tryz.prog 128 #[.slice none 0 0] w fun e w' => ∃ g, e = .returned (.tuple #[.slice (some ⟨g, 0, none⟩) 64 64, .int .i64 0]) ∧ w.heap.size ≤ g ∧ Blk w' g 5 (bytesV (zB 64)).toArray ∧ Ext w w' := by
  have hmk := run_made 64 (by omega) w
  change (Instr.makeSlice 29 (.int .i64 64) (.int .i64 64)).run Tryz.prog w = .ok (.slice (some ⟨w.heap.size, 0, none⟩) 64 64) (w.alloc (.cells (bytesV (zB 64)).toArray 5)) at hmk
  have HB := hide (Blk.new w 5 (bytesV (zB 64)).toArray)
  have HX := hide ((Ext.refl w).alloc (.cells (bytesV (zB 64)).toArray 5))
  go_enter Tryz.func128, Tryz.ntmps128
  go_upto_region 1 with fail
  go_wp2_with fail
  refine (quotaright_ok _).mono ?_
  rintro e w' ⟨rfl, hw'⟩
  subst hw'
  go_upto_region 5 with fail
  clear hmk
  obtain ⟨g, hg⟩ : ∃ g, w'.heap.size = g := ⟨_, rfl⟩
  have HG := hide (show w'.heap.size ≤ g by omega)
  rw [hg] at HB ⊢
  clear hg
  generalize w'.alloc _ = W at *
  have c0 : W.cell? ⟨g, 0, none⟩ = some (.int .u8 0) := HB.out.cell 0
  have f0 := HB.out.frozen 0
  have HB1 := hide (show Blk (W.setCell ⟨g, 0, none⟩ (.int .u8 0)) g 5 (bytesV (zB 64)).toArray from HB.out.set_ 0 (.int .u8 0))
  have HX1 := hide (HX.out.setCell (p := ⟨g, 0, none⟩) HG.out (.int .u8 0))
  go_upto_region 6 with fail
  clear c0 f0 HB HX
  generalize W.setCell _ _ = W1 at *
  go_wp2_with fail
  go_loopw [21] (fun v wr => v = .int .i64 0 ∧ wr = W1) (fun _ _ => 0)
  case atStart => exact ⟨rfl, rfl⟩
  case round =>
    obtain ⟨rfl, rfl⟩ := hrel
    go_wp2_with fail
    go_ret2
    exact ⟨_, rfl, HG.out, HB1.out, HX1.out⟩
set_option maxHeartbeats 4000000 in
set_option maxRecDepth 100000 in
theorem quotaunpack_ok (sb so c : Nat) (w : World) (hr : Reads w w.heap.size 1 (some ⟨sb, so, none⟩) 64 (bytesV (zB 64))) : Calls Tryz.prog 64 #[.slice (some ⟨sb, so, none⟩) 64 c] w fun e w' => e = .returned (.tuple #[.slice none 0 0, .int .i64 0]) ∧ Ext w w' := by
  have HR := hide hr
  have c0 : w.cell? ⟨sb, so, none⟩ = some (.int .u8 0) := by
    obtain ⟨b', o', he, hlt, hcell⟩ := hr.at1 (by omega)
    injection he with he
    injection he with he1 he2
    subst he1 he2
    exact hcell 0 (by omega)
  clear hr
  go_enter Tryz.func64, Tryz.ntmps64
  go_wp2_with fail
  go_loopw [21, 4] (fun v u wr => v = .int .i64 0 ∧ u = .slice none 0 0 ∧ wr = w) (fun _ _ _ => 0)
  case atStart => exact ⟨rfl, rfl, rfl⟩
  case round =>
    obtain ⟨rfl, rfl, hw⟩ := hrel
    subst hw
    go_wp2_with fail
    refine (quotapack_ok _).mono ?_
    rintro e w2 ⟨gp, rfl, hgp, hbp, hx2⟩
    have HX2 := hide hx2
    have HR2 := hide (hx2.reads HR.out (Nat.le_refl _))
    have HP2 := hide (show Reads w2 w2.heap.size 1 (some ⟨gp, 0, none⟩) 64 (bytesV (zB 64)) from Blk.reads hbp)
    clear hbp hx2 hgp c0
    go_wp2_with fail
    refine (equal_bytes _ _ _ _ (zB 64) _ _ _ _ HP2.out HR2.out (by omega)).mono ?_
    rintro e w3 ⟨rfl, d, rfl⟩
    have HX3 := hide (HX2.out.drewN d)
    go_wp2_with fail
    go_ret2
    exact ⟨rfl, HX3.out⟩
end Go.Proofs.YthmojneobkaolaaGreatDoor

namespace Go.Proofs.YthmojneobkaolaaGreatDoor
open Go.RowKit
set_option linter.unusedVariables false

theorem results_tmp4 {fn : Func} {t u v x : Tmp} (h : fn.results = #[.tmp t, .tmp u, .tmp v, .tmp x]) (tmps : Array Value) (P : Program) (w : World) :
    (results fn tmps).run P w = .ok (.tuple #[tmps.getD t undef, tmps.getD u undef, tmps.getD v undef, tmps.getD x undef]) w := by
  simp [results, h]
abbrev logV (hd : Nat) : Array Value := #[.pointer (some ⟨hd, 0, none⟩), .int .i64 5, .int .i64 32, .int .u32 0]
section
variable {b : Nat} {w : World} {hd rs rn : Nat} {wv : Value} {nw : Nat} {S : Nat → Bt}
set_option maxRecDepth 100000 in
theorem region_ok (h : DiskAt b w hd rs rn wv nw S) : Calls Tryz.prog 202 #[.pointer (some ⟨hd, 0, none⟩), .int .i64 5, .int .i64 32] w fun e w' => e = .returned (.int .i64 0) ∧ w' = w := by
  have HSZ := hide (disksize_ok h)
  clear h
  go_enter Tryz.func202, Tryz.ntmps202
  go_wp2_with fail
  refine HSZ.out.mono ?_
  rintro e w' ⟨rfl, hw'⟩
  subst hw'
  go_wp2_with fail
  go_ret
  exact ⟨rfl, rfl⟩
set_option maxHeartbeats 4000000 in
set_option maxRecDepth 100000 in
theorem scan_ok (h : DiskAt b w hd rs rn wv nw S) (h5 : S 5 = zB 64) : Calls Tryz.prog 124 #[.pointer (some ⟨hd, 0, none⟩), .int .i64 5, .int .i64 32] w fun e w' => e = .returned (.tuple #[.slice none 0 0, .int .u32 0, .bool false, .int .i64 0]) ∧ Ext w w' := by
  have HRG := hide (region_ok h)
  have hrd := diskread_ok h 5 (by omega)
  rw [h5] at hrd
  have HRD := hide hrd
  clear h hrd
  go_enter Tryz.func124, Tryz.ntmps124
  go_wp2_with fail
  refine HRG.out.mono ?_
  rintro e w' ⟨rfl, hw'⟩
  subst hw'
  go_wp2_with fail
  refine HRD.out.mono ?_
  rintro e w2 ⟨A2, c2, rfl, ho2, hx2⟩
  have HX2 := hide hx2
  have hr2 := Reads.of_own ho2
  obtain ⟨b2, o2, rfl, -, hc2⟩ := hr2.at1 (by omega)
  have k0 : w2.cell? ⟨b2, o2, none⟩ = some (.int .u8 0) := hc2 0 (by omega)
  have k5 : w2.cell? ⟨b2, o2 + 5, none⟩ = some (.int .u8 0) := hc2 5 (by omega)
  clear hx2 hr2 hc2 ho2 HRG HRD
  go_wp2_with fail
  try simp only [Exit.inBlock, Exit.then]
  refine bodyPost_ret (results_tmp4 rfl _ _ _) rfl ?_
  exact ⟨rfl, HX2.out⟩
set_option maxHeartbeats 4000000 in
set_option maxRecDepth 100000 in
theorem jopen_ok (h : DiskAt b w hd rs rn wv nw S) (h5 : S 5 = zB 64) : Calls Tryz.prog 61 #[.pointer (some ⟨hd, 0, none⟩), .int .i64 5, .int .i64 32] w fun e w' => ∃ hl, e = .returned (.tuple #[.pointer (some ⟨hl, 0, none⟩), .int .i64 0]) ∧ w.heap.size ≤ hl ∧ Blk w' hl 239 (logV hd) ∧ Ext w w' := by
  have HSC := hide (scan_ok h h5)
  clear h
  go_enter Tryz.func61, Tryz.ntmps61
  go_wp2_with fail
  refine HSC.out.mono ?_
  rintro e w2 ⟨rfl, hx2⟩
  have HX := hide (hx2.alloc (.cells (logV hd) 239))
  have HG := hide hx2.size
  clear hx2 HSC
  go_wp2_with fail
  go_ret2
  exact ⟨_, rfl, HG.out, Blk.new _ _ _, HX.out⟩
set_option maxHeartbeats 4000000 in
set_option maxRecDepth 100000 in
theorem jright_ok {hl : Nat} (hb : Blk w hl 239 (logV hd)) : Calls Tryz.prog 146 #[.pointer (some ⟨hl, 0, none⟩), .slice none 0 0] w fun e w' => e = .returned (.int .i64 0) ∧ Ext w w' := by
  have HRM : Hid (Calls Tryz.prog 212 #[.pointer (some ⟨hl, 0, none⟩)] w fun e w' => e = .returned (.int .i64 30) ∧ w' = w) := by
    have c2 : w.cell? ⟨hl, 2, none⟩ = some (.int .i64 32) := hb.cell 2
    clear hb
    go_enter Tryz.func212, Tryz.ntmps212
    go_wp2_with fail
    go_ret
    exact ⟨rfl, rfl⟩
  clear hb
  have hmk := run_mk 250 w
  have HX := hide ((Ext.refl w).alloc (.map #[] 0))
  go_enter Tryz.func146, Tryz.ntmps146
  go_wp2_with fail
  refine HRM.out.mono ?_
  rintro e w' ⟨rfl, hw'⟩
  subst hw'
  go_wp2_with fail
  generalize w'.alloc _ = W at *
  go_loopw [16] (fun v wr => v = .int .i64 0 ∧ wr = W) (fun _ _ => 0)
  case atStart => exact ⟨rfl, rfl⟩
  case round =>
    obtain ⟨rfl, hw⟩ := hrel
    subst hw
    go_wp2_with fail
    go_ret
    exact ⟨rfl, HX.out⟩
set_option maxHeartbeats 4000000 in
set_option maxRecDepth 100000 in
theorem jcommit_ok (h : DiskAt b w hd rs rn wv nw S) {hl : Nat} (hb : Blk w hl 239 (logV hd)) : Calls Tryz.prog 74 #[.pointer (some ⟨hl, 0, none⟩), .slice none 0 0] w fun e w' => e = .returned (.int .i64 0) ∧ DiskAt b w' hd rs rn (.slice none 0 0) 0 S ∧ KeepL b [123] [rs] [] w w' := by
  have HRT := hide (jright_ok hb)
  have HB := hide hb
  have H := hide h
  clear h hb
  go_enter Tryz.func74, Tryz.ntmps74
  go_wp2_with fail
  refine HRT.out.mono ?_
  rintro e w2 ⟨rfl, hx2⟩
  have HFL := hide (diskflush_ok (H.out.ext hx2))
  have c0 : w2.cell? ⟨hl, 0, none⟩ = some (.pointer (some ⟨hd, 0, none⟩)) := (HB.out.ext hx2).cell 0
  have HX := hide hx2
  clear hx2 HRT
  go_wp2_with fail
  refine HFL.out.mono ?_
  rintro e w3 ⟨rfl, hd3, hk3⟩
  have HD3 := hide hd3
  have HK3 := hide ((KeepL.of HX.out b [123] [rs] []).trans hk3)
  clear hd3 hk3 HFL c0
  go_wp2_with fail
  go_ret
  exact ⟨rfl, HD3.out, HK3.out⟩
end
end Go.Proofs.YthmojneobkaolaaGreatDoor

namespace Go.Proofs.YthmojneobkaolaaGreatDoor
open Go.RowKit
set_option linter.unusedVariables false

def nodeAt (i : Nat) : List Value := if i = 0 then ndR else ndZ
def nodesL : Nat → List Value
  | 0 => []
  | k + 1 => nodesL k ++ nodeAt k
theorem nodeAt_len (i : Nat) : (nodeAt i).length = 8 := by unfold nodeAt; split <;> rfl
theorem nodesL_len (k : Nat) : (nodesL k).length = k * 8 := by
  induction k with
  | zero => rfl
  | succ k ih => rw [nodesL, List.length_append, ih, nodeAt_len]; omega
theorem nodesL_at (k i j : Nat) (hi : i < k) (hj : j < 8) : (nodesL k)[i * 8 + j]? = (nodeAt i)[j]? := by
  induction k with
  | zero => omega
  | succ k ih =>
    rw [nodesL]
    by_cases h : i = k
    · subst h
      rw [List.getElem?_append_right (by rw [nodesL_len]; omega), nodesL_len]
      congr 1
      omega
    · rw [List.getElem?_append_left (by rw [nodesL_len]; omega)]
      exact ih (by omega)
theorem nodesL_one (k : Nat) : ∀ u ∈ nodesL k, u.oneCell' = true := by
  induction k with
  | zero => intro u hu; cases hu
  | succ k ih =>
    intro u hu
    rcases List.mem_append.1 hu with hu | hu
    · exact ih u hu
    · have h0 : (nodeAt k).toArray.all (·.oneCell') = true := by
        unfold nodeAt
        split
        · exact ndR_one
        · exact ndZ_one
      rw [List.all_toArray] at h0
      exact List.all_eq_true.1 h0 u hu
theorem node_size' (i : Nat) : (Tryz.prog.info? 136).map (·.size) = some (nodeAt i).length := by
  rw [nodeAt_len]
  kernel_rfl
theorem nodes_range' {w : World} {B g off : Nat} (hr : Reads w B 8 (some ⟨g, off, none⟩) 32 (nodesL 32)) (i : Nat) (hi : i < 32) : w.rangeAt g (off + i * 8) (nodeAt i) := fun j v hv => by
  have hj : j < 8 := by rw [← nodeAt_len i]; exact (List.getElem?_eq_some_iff.1 hv).1
  obtain ⟨ad, e, hb, hc⟩ := hr.2 (by omega)
  injection e with e
  subst e
  have := hc (i * 8 + j) v (by rw [nodesL_at 32 i j hi hj]; exact hv)
  rw [add_lit] at this
  rwa [Nat.add_assoc]
set_option maxHeartbeats 4000000 in
set_option maxRecDepth 100000 in
theorem lost_ok (g c : Nat) (w : World) (hr : Reads w w.heap.size 8 (some ⟨g, 0, none⟩) 32 (nodesL 32)) : Calls Tryz.prog 65 #[.slice (some ⟨g, 0, none⟩) 32 c, .slice none 0 0] w fun e w' => e = .returned (.slice none 0 0) ∧ Ext w w' := by
  have HR := hide hr
  clear hr
  go_enter Tryz.func65, Tryz.ntmps65
  go_wp2_with fail
  go_loopw [10, 5] (fun v u wr => ∃ i : Nat, v = .int .i64 (i : Int) ∧ u = .slice none 0 0 ∧ i ≤ 32 ∧ Ext w wr) (fun v _ _ => 32 - (intOf v).toNat)
  case atStart => exact ⟨0, rfl, rfl, by omega, Ext.refl _⟩
  case round =>
    obtain ⟨i, rfl, rfl, hi, hx⟩ := hrel
    have HX := hide hx
    clear hx
    by_cases hlt : i < 32
    · have hlt' : (i : Int) < 32 := by omega
      have hi0 : (0 : Int) ≤ (i : Int) := by omega
      have hng := nodes_range' (HX.out.reads HR.out (Nat.le_refl _)) i hlt
      rw [Nat.zero_add] at hng
      by_cases h0 : i = 0
      · rw [show nodeAt i = ndR by rw [nodeAt, if_pos h0]] at hng
        have HNG := hide hng
        have HNS := hide (node_size ndR rfl)
        have HXA := hide (HX.out.alloc (.cells ndR.toArray 136))
        have HBA := hide (Blk.new wr 136 ndR.toArray)
        clear hng h0
        go_upto_region 5 with ((with_reducible refine wpList_load_mid rfl 136 (.tmp 13) rfl g (i * 8) rfl ndR _ HNG.out Tryz.underlying136 rfl HNS.out ?_))
        obtain ⟨q, hq⟩ : ∃ q, wr.heap.size = q := ⟨_, rfl⟩
        rw [hq] at HBA ⊢
        clear hq
        generalize wr.alloc _ = W at *
        have k0 : W.cell? ⟨q, 0, none⟩ = some (.int .i64 2) := HBA.out.cell 0
        have k5 : W.cell? ⟨q, 5, none⟩ = some (.int .i64 1) := HBA.out.cell 5
        go_wp2_with fail
        go_roundw
        case rel => exact ⟨i + 1, by first | rfl | go_num, rfl, by omega, HXA.out⟩
        case measure => simp [intOf]; omega
      · rw [show nodeAt i = ndZ by rw [nodeAt, if_neg h0]] at hng
        have HNG := hide hng
        have HNS := hide (node_size ndZ rfl)
        have HXA := hide (HX.out.alloc (.cells ndZ.toArray 136))
        have HBA := hide (Blk.new wr 136 ndZ.toArray)
        clear hng h0
        go_upto_region 5 with ((with_reducible refine wpList_load_mid rfl 136 (.tmp 13) rfl g (i * 8) rfl ndZ _ HNG.out Tryz.underlying136 rfl HNS.out ?_))
        obtain ⟨q, hq⟩ : ∃ q, wr.heap.size = q := ⟨_, rfl⟩
        rw [hq] at HBA ⊢
        clear hq
        generalize wr.alloc _ = W at *
        have k0 : W.cell? ⟨q, 0, none⟩ = some (.int .i64 0) := HBA.out.cell 0
        go_wp2_with fail
        go_roundw
        case rel => exact ⟨i + 1, by first | rfl | go_num, rfl, by omega, HXA.out⟩
        case measure => simp [intOf]; omega
    · obtain rfl : i = 32 := by omega
      go_wp2_with fail
      go_ret
      exact ⟨rfl, HX.out⟩
end Go.Proofs.YthmojneobkaolaaGreatDoor

namespace Go.Proofs.YthmojneobkaolaaGreatDoor
open Go.RowKit
set_option linter.unusedVariables false

abbrev rdV (hd : Nat) : Value := .iface 24 (.pointer (some ⟨hd, 0, none⟩))
def LdRel (T : Nat → Bt) (B : Nat) (w0 : World) (v u : Value) (wr : World) : Prop := ∃ (k m : Nat) (A : Option Addr) (c : Nat), v = .int .i64 (k : Int) ∧ k ≤ 3 ∧ m = 64 * k ∧ u = .slice A m c ∧ wr.ownsRow B 5 1 (.slice A m c) m (bytesV (flatS T k)) ∧ Ext w0 wr
def LkRel (w0 : World) (v : Value) (wr : World) : Prop := ∃ k : Nat, v = .int .i64 (k : Int) ∧ k ≤ 4 ∧ Ext w0 wr
def LiRel (w0 : World) (v : Value) (wr : World) : Prop := ∃ i : Nat, v = .int .i64 (i : Int) ∧ i ≤ 16 ∧ Ext w0 wr
section
variable {b : Nat} {w : World} {hd rs rn : Nat} {wv : Value} {nw : Nat} {S : Nat → Bt} {nd : Nat → Nat} {hs : Nat → Int}
set_option maxHeartbeats 8000000 in
set_option maxRecDepth 100000 in
theorem load_ok (h : DiskAt b w hd rs rn wv nw S) (hnd : ∀ i, i < 16 → 37 ≤ nd i ∧ nd i < 256) (hh : ∀ j, j < 32 → 0 ≤ hs j ∧ hs j < 256) (hS : flatS (fun i => S (1 + i)) 3 = packF nd hs) :
    Calls Tryz.prog 62 #[rdV hd] w fun e w' => e = .returned (.tuple #[.agg (forL nd hs).toArray, .int .i64 0]) ∧ Ext w w' := by
  have h0 : nd 0 ≠ 0 := by have := (hnd 0 (by omega)).1; omega
  obtain ⟨i0, hi0, hz0, hz1, hz2⟩ := info_parts byte_info
  have hmR : ∀ W : World, (method 620 24 (.pointer (some ⟨hd, 0, none⟩)) "Read").run Tryz.prog W = .ok (59, .pointer (some ⟨hd, 0, none⟩)) W := fun _ => by kernel_rfl
  have hmS : ∀ W : World, (method 620 24 (.pointer (some ⟨hd, 0, none⟩)) "Size").run Tryz.prog W = .ok (52, .pointer (some ⟨hd, 0, none⟩)) W := fun _ => by kernel_rfl
  have HD := hide h
  have HND := hide hnd
  have HUN := hide (snapunpack_ok (nd := nd) (hs := hs) h0 (fun i hi => (hnd i hi).2) hh)
  have HTH := hide (there_ok (nd := nd) (hs := hs) h0)
  have HFS := hide (for_size nd hs)
  have HSS := hide hS
  have HX := hide ((Ext.refl w).alloc (.cells for0 130))
  have HBZ := hide (Blk.new w 130 for0)
  clear h hnd hh hS
  go_enter Tryz.func62, Tryz.ntmps62
  go_upto_region 2 with fail
  obtain ⟨g, hg⟩ : ∃ g, w.heap.size = g := ⟨_, rfl⟩
  have HG := hide (show w.heap.size ≤ g by omega)
  rw [hg] at HBZ ⊢
  clear hg
  generalize w.alloc _ = W at *
  go_wp2_with fail
  go_loopw [13, 4] (LdRel (fun i => S (1 + i)) W.heap.size W · ·) (fun v _ _ => 3 - (intOf v).toNat)
  case atStart => exact ⟨0, 0, none, 0, rfl, by omega, rfl, rfl, World.ownsRow_nil _ _ _ _, Ext.refl _⟩
  case round =>
    obtain ⟨k, m, A, c, rfl, hk, hm, rfl, ho, hx⟩ := hrel
    have HO := hide ho
    have HXK := hide hx
    have HM := hide hm
    clear ho hx hm
    by_cases hlt : k < 3
    · have hlt' : (k : Int) < 3 := by omega
      have HRD := hide (diskread_ok (HD.out.ext (HX.out.trans HXK.out)) (1 + k) (by omega))
      rw [show ((1 + k : Nat) : Int) = 1 + (k : Int) by omega] at HRD
      go_wp2_with fail
      refine HRD.out.mono ?_
      rintro e w2 ⟨A2, c2, rfl, ho2, hx2⟩
      have HX2 := hide (HXK.out.trans hx2)
      have HR2 := hide (Reads.of_own ho2)
      have HO2 := hide (hx2.own HO.out)
      have HBB := hide (show W.heap.size ≤ w2.heap.size from HX2.out.size)
      have hm1 : m ≤ 1000 := by have := HM.out; omega
      clear ho2 hx2
      go_wp2_with (at_builtin; refine wpList_append_any _ rfl (.tmp 26) (.tmp 27) 29 rfl W.heap.size 5 i0 _ 1 1 Tryz.underlying29 hi0 hz0 hz1 hz2 rfl (by omega) (.slice A m c) m (bytesV (flatS (fun i => S (1 + i)) k)) rfl HO2.out _ A2 64 c2 (bytesV (S (1 + k))) rfl HR2.out (bytesV_one _) (by simp only [maxLen]; omega) (by omega) HBB.out ?_; intro A9 c9 w9 hown9 hg9 hadr9)
      go_roundw
      case rel =>
        refine ⟨k + 1, m + 64, A9, c9, by first | rfl | go_num, by omega, by have := HM.out; omega, rfl, ?_, Ext.grown HX2.out hg9 (fun j hj => (HO2.out.lt j hj).1)⟩
        rw [flatS, bytesV_append]
        exact hown9
      case measure => simp [intOf]; omega
    · obtain rfl : k = 3 := by omega
      have hm3 : m = 192 := by have := HM.out; omega
      subst hm3
      have ho := HO.out
      rw [HSS.out] at ho
      obtain ⟨gb, rfl, hgb, hgl, hc1, hc2⟩ := own_addr ho (by omega)
      have HU := hide (HUN.out gb 0 c hc1 wr (Reads.of_own ho))
      clear ho HO
      go_wp2_with fail
      refine HU.out.mono ?_
      rintro e w3 ⟨rfl, hx3⟩
      have HX3 := hide (HXK.out.trans hx3)
      clear hx3 HU HXK
      have HXA := hide (HX3.out.alloc (.cells for0 130))
      have HBA := hide (Blk.new w3 130 for0)
      have HQG := hide (show W.heap.size ≤ w3.heap.size from HX3.out.size)
      have HBZ3 := hide ((HBZ.out.ext HX3.out).alloc (.cells for0 130))
      have HL := hide (show (forL nd hs).length = 192 from forL_len nd hs)
      have HT := hide (show (w3.alloc (.cells for0 130)).there w3.heap.size 0 (forL nd hs).toArray.size by rw [show (forL nd hs).toArray.size = 192 from HL.out]; exact HBA.out.there_ 0 192 (Nat.le_refl _))
      have HGQ := hide (show g < w3.heap.size from (HBZ.out.ext HX3.out).lt)
      go_upto_region 11 with ((with_reducible refine wpList_store_mid rfl 130 (.tmp 8) (.tmp 33) rfl w3.heap.size 0 (forL nd hs).toArray rfl ?_ ?_ ?_ (forL_one nd hs) ?_); (exact rfl); (exact HT.out); (rw [List.size_toArray]; exact HFS.out))
      have HF := hide (HBA.out.setAll (forL nd hs) (by rw [HL.out]; rfl))
      have HZ := hide (HBZ3.out.grown (setCells_grown w3.heap.size (forL nd hs) (w3.alloc (.cells for0 130)) 0) (by have := HGQ.out; simp; omega))
      have HXF := hide (HXA.out.setCells HQG.out 0 (forL nd hs))
      obtain ⟨q, hq⟩ : ∃ q, w3.heap.size = q := ⟨_, rfl⟩
      rw [hq] at HF HZ HXF HGQ ⊢
      change Code.wp _ _ _ _ ((w3.alloc (.cells for0 130)).setCells q 0 (forL nd hs))
      clear HXA HBA HBZ3 HT HQG HX3 hq
      generalize (w3.alloc _).setCells q 0 (forL nd hs) = W4 at *
      have HLF := hide HF.out.all
      have hd0 : decide ((0 : Nat) = 0) = true := rfl
      go_wp2_with ((with_reducible refine wpList_load_mid_g rfl 130 (.tmp 8) rfl q 0 rfl (forL nd hs) _ HLF.out Tryz.underlying130 rfl HFS.out ?_))
      refine (HTH.out 0 (by omega) _).mono ?_
      rintro e w5 ⟨rfl, hx5⟩
      have HX5 := hide (HXF.out.trans hx5)
      have HF5 := hide (HF.out.ext hx5)
      have HZ5 := hide (HZ.out.ext hx5)
      clear hx5 HXF HF HZ HLF
      rw [show decide (0 = 0) = true from rfl]
      go_wp2_with fail
      go_loopw [43] (LkRel w5 · ·) (fun v _ => 4 - (intOf v).toNat)
      case atStart => exact ⟨0, rfl, by omega, Ext.refl _⟩
      case round =>
        obtain ⟨k, rfl, hk, hxk⟩ := hrel
        have HXR := hide hxk
        clear hxk
        by_cases hlt : k < 4
        · have hlt' : (k : Int) < 4 := by omega
          have hk0 : (0 : Int) ≤ (k : Int) := by omega
          have HNR := hide (nodes_range hlt (HF5.out.ext HXR.out))
          have HNS := hide (nd_size (nd := nd) k)
          go_upto_region 17 with ((with_reducible refine wpList_load_mid rfl 54 (.tmp 48) rfl q (k * 48) rfl (ndL nd k) _ HNR.out Tryz.underlying54 rfl HNS.out ?_))
          go_loopw [50] (LiRel w5 · ·) (fun v _ => 16 - (intOf v).toNat)
          case atStart => exact ⟨0, rfl, by omega, HXR.out⟩
          case round =>
            obtain ⟨i, rfl, hi, hxi⟩ := hrel
            have HXI := hide hxi
            clear hxi
            by_cases hli : i < 16
            · have hli' : (i : Int) < 16 := by omega
              have hi0 : (0 : Int) ≤ (i : Int) := by omega
              have hix := index_nd (nd := nd) k i hli wr
              have HFR := hide (HF5.out.ext HXI.out)
              have HLF := hide HFR.out.all
              by_cases hk0' : k = 0
              · rw [if_pos hk0'] at hix
                have hd : decide (k = 0) = true := decide_eq_true hk0'
                clear hk0'
                have hx1 := (HND.out i hli).1
                have hx2 := (HND.out i hli).2
                generalize nd i = x at *
                have d1 : decide ((x : Int) < 37) = false := decide_eq_false (by omega)
                have d2 : decide ((256 : Int) ≤ (x : Int)) = false := decide_eq_false (by omega)
                go_wp2_with ((with_reducible refine wpList_load_mid rfl 130 (.tmp 8) rfl q 0 rfl (forL nd hs) _ HLF.out Tryz.underlying130 rfl HFS.out ?_))
                refine (HTH.out k hlt _).mono ?_
                rintro e w6 ⟨rfl, hx6⟩
                have HX6 := hide (HXI.out.trans hx6)
                have HSZ := hide (disksize_ok (HD.out.ext ((HX.out.trans HX5.out).trans HX6.out)))
                clear hx6
                rw [hd]
                go_wp2_with fail
                refine HSZ.out.mono ?_
                rintro e w7 ⟨rfl, hw7⟩
                subst hw7
                go_wp2_with fail
                go_roundw
                case rel => exact ⟨i + 1, by first | rfl | go_num, by omega, HX6.out⟩
                case measure => simp [intOf]; omega
              · have hd : decide (k = 0) = false := decide_eq_false hk0'
                rw [if_neg hk0'] at hix
                go_wp2_with ((with_reducible refine wpList_load_mid rfl 130 (.tmp 8) rfl q 0 rfl (forL nd hs) _ HLF.out Tryz.underlying130 rfl HFS.out ?_))
                refine (HTH.out k hlt _).mono ?_
                rintro e w6 ⟨rfl, hx6⟩
                have HX6 := hide (HXI.out.trans hx6)
                clear hx6
                go_wp2_with fail
                go_roundw
                case rel => exact ⟨i + 1, by first | rfl | go_num, by omega, HX6.out⟩
                case measure => simp [intOf]; omega
            · obtain rfl : i = 16 := by omega
              go_wp2_with fail
              go_roundw
              case rel => exact ⟨k + 1, by first | rfl | go_num, by omega, HXI.out⟩
              case measure => simp [intOf]; omega
        · obtain rfl : k = 4 := by omega
          have HFR := hide (HF5.out.ext HXR.out)
          have HZR := hide (HZ5.out.ext HXR.out)
          have HLF := hide HFR.out.all
          have HT := hide (show wr.there g 0 (forL nd hs).toArray.size by rw [show (forL nd hs).toArray.size = 192 from HL.out]; exact HZR.out.there_ 0 192 (Nat.le_refl _))
          go_wp2_with (first | ((with_reducible refine wpList_load_mid rfl 130 (.tmp 8) rfl q 0 rfl (forL nd hs) _ HLF.out Tryz.underlying130 rfl HFS.out ?_)) | ((with_reducible refine wpList_store_mid rfl 130 (.tmp 2) (.tmp 69) rfl g 0 (forL nd hs).toArray rfl ?_ ?_ ?_ (forL_one nd hs) ?_); (exact rfl); (exact HT.out); (rw [List.size_toArray]; exact HFS.out)))
          exact ret_cell_tmp Tryz.f62 2 3 rfl rfl rfl rfl ((HZR.out.setAll (forL nd hs) (by rw [HL.out]; rfl)).all) Tryz.underlying130 rfl HFS.out ⟨rfl, ((HX.out.trans HX5.out).trans HXR.out).setCells HG.out 0 _⟩
end
end Go.Proofs.YthmojneobkaolaaGreatDoor

namespace Go.Proofs.YthmojneobkaolaaGreatDoor
open Go.RowKit
set_option linter.unusedVariables false

def treeL (nd : Nat → Nat) (hs : Nat → Int) : List Value := (List.range 48).map (forF nd hs)
theorem treeL_len (nd : Nat → Nat) (hs : Nat → Int) : (treeL nd hs).length = 48 := by simp [treeL]
theorem treeL_at (nd : Nat → Nat) (hs : Nat → Int) (o : Nat) (h : o < 48) : (treeL nd hs)[o]? = some (forF nd hs o) := by simp [treeL, h]
theorem treeL_size (nd : Nat → Nat) (hs : Nat → Int) : (Tryz.prog.info? 128).map (·.size) = some (treeL nd hs).length := by
  rw [treeL_len]
  kernel_rfl
theorem tree_nodes {w : World} {g : Nat} {nd : Nat → Nat} {hs : Nat → Int} (h : Blk w g 128 (treeL nd hs).toArray) : w.rangeAt g 0 (ndL nd 0) := h.range _ _ fun j v hv => by
  have hj : j < 16 := by have := (List.getElem?_eq_some_iff.1 hv).1; simpa [ndL] using this
  rw [List.getElem?_toArray, Nat.zero_add, treeL_at _ _ _ (by omega), ← hv, ← List.getElem?_toArray, ndL_at 0 j hj]
  unfold forF
  rw [if_pos hj, if_pos rfl]
theorem tree_of_for {w : World} {g : Nat} {nd : Nat → Nat} {hs : Nat → Int} (h : Blk w g 130 (forL nd hs).toArray) : w.rangeAt g 0 (treeL nd hs) := h.range _ _ fun j v hv => by
  have hj : j < 48 := by have := (List.getElem?_eq_some_iff.1 hv).1; simpa [treeL] using this
  rw [List.getElem?_toArray, Nat.zero_add, forL_at _ _ _ (by omega), ← hv, treeL_at _ _ _ hj]
theorem nd_info : (Tryz.prog.info? 136).map (fun i => (i.zero, i.size, i.bytes)) = some (some (.agg #[.int .i64 0, .int .i64 0, .int .i64 0, .int .i64 0, .int .i64 0, .int .i64 0, .int .i64 0, .slice none 0 0]), 8, 80) := by kernel_rfl
/-- The bytes of a node. -/
def nodeB (n : Nat) : Bt := if n = 0 then rootB else zB 32
theorem half_slice (g c i p q : Nat) (hi : i < 2) (hp : p = 32 * i) (hq : q = 32 * i + 32) (hc : 64 ≤ c) (W : World) : (Instr.slice 29 (.slice (some ⟨g, 0, none⟩) 64 c) (some (.int .i64 (p : Int))) (some (.int .i64 (q : Int))) none).run Tryz.prog W = .ok (.slice (some ⟨g, p, none⟩) 32 (c - p)) W := by
  obtain ⟨i0, hi0, hz0, hz1, hz2⟩ := info_parts byte_info
  have he : Tryz.prog.elem 29 = 5 := by kernel_rfl
  rw [run_slice_lh W 29 (some ⟨g, 0, none⟩) 64 c (by kernel_rfl) .i64 .i64 (p : Int) (q : Int) (by omega) (by omega) (by omega), he]
  have hne : ¬ c = p := by omega
  have e3 : q - p = 32 := by omega
  simp only [Int.toNat_natCast]
  simp [sizeOf, typeInfo, hi0, hz1, sliced, Result.andThen, hne, add_lit, e3]
theorem Blk.elem {w : World} {g : Nat} {t : TypeId} {l : List Value} (h : Blk w g t l.toArray) : Reads w w.heap.size l.length (some ⟨g, 0, none⟩) 1 l := by
  refine ⟨by omega, fun _ => ⟨_, rfl, h.lt, fun j u hu => ?_⟩⟩
  rw [add_lit, Nat.zero_add, h.cell, List.getElem?_toArray]
  exact hu
def TrRel (B : Nat) (w0 : World) (v u : Value) (wr : World) : Prop := ∃ (k m : Nat) (A : Option Addr) (c : Nat), v = .int .i64 (k : Int) ∧ k ≤ 16 ∧ m = 2 * k ∧ u = .slice A m c ∧ wr.ownsRow B 136 8 (.slice A m c) m (nodesL m) ∧ Ext w0 wr
def TiRel (B k : Nat) (w0 w2 : World) (v u : Value) (wr : World) : Prop := ∃ (i m : Nat) (A : Option Addr) (c : Nat), v = .int .i64 (i : Int) ∧ i ≤ 2 ∧ m = 2 * k + i ∧ u = .slice A m c ∧ wr.ownsRow B 136 8 (.slice A m c) m (nodesL m) ∧ Ext w0 wr ∧ KeepL B [136] [] [] w2 wr
section
variable {b : Nat} {w : World} {hd rs rn : Nat} {wv : Value} {nw : Nat} {S : Nat → Bt} {nd : Nat → Nat} {hs : Nat → Int}
set_option maxHeartbeats 400000 in
set_option maxRecDepth 100000 in
theorem tree_ok (h : DiskAt b w hd rs rn wv nw S) (hnd : ∀ i, i < 16 → nd i < 256) (hS : ∀ i, i < 16 → S (nd i) = nodeB (2 * i) ++ zB 32) :
    Calls Tryz.prog 63 #[rdV hd, .agg (treeL nd hs).toArray] w fun e w' => ∃ g c, e = .returned (.tuple #[.slice (some ⟨g, 0, none⟩) 32 c, .int .i64 0]) ∧ w'.ownsRow w.heap.size 136 8 (.slice (some ⟨g, 0, none⟩) 32 c) 32 (nodesL 32) ∧ Ext w w' := by
  obtain ⟨i0, hi0, hz0, hz1, hz2⟩ := info_parts nd_info
  have hmR : ∀ W : World, (method 620 24 (.pointer (some ⟨hd, 0, none⟩)) "Read").run Tryz.prog W = .ok (59, .pointer (some ⟨hd, 0, none⟩)) W := fun _ => by kernel_rfl
  have HD := hide h
  have HND := hide hnd
  have HSS := hide hS
  have HX := hide ((Ext.refl w).alloc (.cells (treeL nd hs).toArray 128))
  have HBT := hide (Blk.new w 128 (treeL nd hs).toArray)
  clear h hnd hS
  go_enter Tryz.func63, Tryz.ntmps63
  go_upto_region 2 with fail
  obtain ⟨q, hq⟩ : ∃ q, w.heap.size = q := ⟨_, rfl⟩
  have HQ := hide hq
  rw [hq] at HBT ⊢
  clear hq
  generalize w.alloc _ = W at *
  have HNR := hide (tree_nodes HBT.out)
  have HNS := hide (nd_size (nd := nd) 0)
  go_upto_region 3 with ((with_reducible refine wpList_load_mid rfl 54 (.tmp 14) rfl q 0 rfl (ndL nd 0) _ HNR.out Tryz.underlying54 rfl HNS.out ?_))
  clear HNR HNS HBT
  go_loopw [16, 6] (TrRel W.heap.size W · ·) (fun v _ _ => 16 - (intOf v).toNat)
  case atStart => exact ⟨0, 0, none, 0, rfl, by omega, rfl, rfl, World.ownsRow_nil _ _ _ _, Ext.refl _⟩
  case round =>
    obtain ⟨k, m, A, c, rfl, hk, hm, rfl, ho, hx⟩ := hrel
    have HO := hide ho
    have HXK := hide hx
    have HM0 := hide hm
    clear ho hx hm
    by_cases hlt : k < 16
    · have hlt' : (k : Int) < 16 := by omega
      have hk0 : (0 : Int) ≤ (k : Int) := by omega
      have hix := index_nd (nd := nd) 0 k hlt wr
      rw [if_pos rfl] at hix
      have HRD := hide (diskread_ok (HD.out.ext (HX.out.trans HXK.out)) (nd k) (HND.out k hlt))
      have HNB := hide (HSS.out k hlt)
      generalize nd k = x at *
      go_wp2_with fail
      refine HRD.out.mono ?_
      rintro e w2 ⟨A2, c2, rfl, ho2, hx2⟩
      obtain ⟨g2, rfl, hg2, hgl2, hc2, hc3⟩ := own_addr ho2 (by omega)
      have HR2 := hide (BAt.of_own ho2)
      have HO2 := hide (hx2.own HO.out)
      have HX2 := hide (HXK.out.trans hx2)
      have HC2 := hide hc2
      have HH : Hid (∀ i m', i < 2 → m' = 2 * k + i → ((bytesV (S x)).drop (32 * i)).take 32 = bytesV (nodeB m')) := by
        refine fun i m' hi hm' => ?_
        subst hm'
        rw [HNB.out, bytesV_drop, bytesV_take]
        have hl : ∀ j, (nodeB j).length = 32 := fun j => by unfold nodeB; split <;> rfl
        congr 1
        rcases (show i = 0 ∨ i = 1 by omega) with rfl | rfl
        · rw [Nat.mul_zero, List.drop_zero, List.take_left' (hl _)]
          rfl
        · rw [Nat.mul_one, List.drop_left' (hl _)]
          unfold nodeB
          rw [if_neg (by omega)]
          rfl
      clear hx2 ho2 HRD hg2 hgl2 hc2 hc3
      go_wp2_with fail
      go_loopw [27, 6] (TiRel W.heap.size k W w2 · ·) (fun v _ _ => 2 - (intOf v).toNat)
      case atStart => exact ⟨0, m, A, c, rfl, by omega, HM0.out, rfl, HO2.out, HX2.out, KeepL.refl _ _ _ _ _⟩
      case round =>
        clear HO HO2 HM0
        obtain ⟨i, m, A5, c5, rfl, hi, hm, rfl, ho5, hx5, hk5⟩ := hrel
        have HO5 := hide ho5
        have HX5 := hide hx5
        have HK5 := hide hk5
        have HM := hide hm
        clear ho5 hx5 hm hk5
        by_cases hi2 : i < 2
        · have hi2' : (i : Int) < 2 := by omega
          obtain ⟨p, hp⟩ : ∃ p : Nat, p = 32 * i := ⟨_, rfl⟩
          obtain ⟨r, hr⟩ : ∃ r : Nat, r = 32 * i + 32 := ⟨_, rfl⟩
          have hsl := half_slice g2 c2 i p r hi2 hp hr HC2.out wr
          have hw1 : IntKind.i64.wrap (32 * (i : Int)) = (p : Int) := by
            rw [show (32 * (i : Int)) = (p : Int) by omega]
            exact i64_wr _ (by omega)
          have hw2 : IntKind.i64.wrap (32 * ((i : Int) + 1)) = (r : Int) := by
            rw [show (32 * ((i : Int) + 1)) = (r : Int) by omega]
            exact i64_wr _ (by omega)
          have HP := hide hp
          clear hp hr
          have hm1 : m ≤ 40 := by have := HM.out; omega
          by_cases hm0 : m = 0
          · have HBN := hide (show nodeB m = rootB by unfold nodeB; simp only [hm0, if_true])
            have HNA := hide (show nodeAt m = ndR by unfold nodeAt; simp only [hm0, if_true])
            have HU := hide (unpackr_ok g2 p (c2 - p) (by have := HC2.out; have := HP.out; omega) wr (by
              have := (HR2.out.keep HK5.out (by decide) (fun _ _ => by simp)).reads.sub (32 * i) 32 (by omega)
              rw [HH.out i m hi2 (by have := HM.out; omega), HBN.out, Nat.zero_add, ← HP.out] at this
              exact this))
            clear hm0
            go_wp2_with fail
            refine HU.out.mono ?_
            rintro e w6 ⟨rfl, hx6⟩
            have HX6 := hide (HX5.out.trans hx6)
            have HK6 := hide (HK5.out.trans (KeepL.of hx6 _ _ _ _))
            have HO6 := hide (hx6.own HO5.out)
            clear hx6 HU
            have HXA := hide (HX6.out.alloc (.cells ndR.toArray 136))
            have HKA := hide (HK6.out.trans (KeepL.of ((Ext.refl w6).alloc (.cells ndR.toArray 136)) _ _ _ _))
            have HBA := hide (Blk.new w6 136 ndR.toArray)
            have HOA := hide (((Ext.refl w6).alloc (.cells ndR.toArray 136)).own HO6.out)
            go_upto_region 12 with fail
            obtain ⟨q6, hq6⟩ : ∃ q, w6.heap.size = q := ⟨_, rfl⟩
            rw [hq6] at HBA ⊢
            clear hq6 HO6 HX6 HK6
            generalize w6.alloc _ = W7 at *
            have HLD := hide HBA.out.all
            have HNS := hide (node_size ndR rfl)
            have hx8 := (Ext.refl W7).alloc (.cells ndR.toArray 136)
            have HO8 := hide (hx8.own HOA.out)
            have HX8 := hide (HXA.out.trans hx8)
            have HK8 := hide (HKA.out.trans (KeepL.of hx8 _ _ _ _))
            have HRN := hide (show Reads (W7.alloc (.cells ndR.toArray 136)) (W7.alloc (.cells ndR.toArray 136)).heap.size 8 (some ⟨W7.heap.size, 0, none⟩) 1 ndR from (Blk.new W7 136 ndR.toArray).elem)
            have HBB := hide (show W.heap.size ≤ (W7.alloc (.cells ndR.toArray 136)).heap.size from HX8.out.size)
            clear hx8
            go_wp2_with (first | ((with_reducible refine wpList_load_mid rfl 136 (.tmp 12) rfl q6 0 rfl ndR _ HLD.out Tryz.underlying136 rfl HNS.out ?_)) | (at_builtin; refine wpList_append_any _ rfl (.tmp 43) (.tmp 45) 145 rfl W.heap.size 136 i0 _ 8 80 Tryz.underlying145 hi0 hz0 hz1 hz2 rfl (by omega) (.slice A5 m c5) m (nodesL m) rfl HO8.out _ (some ⟨W7.heap.size, 0, none⟩) 1 1 ndR rfl HRN.out (by intro u hu; simp only [List.mem_cons, List.not_mem_nil, or_false] at hu; rcases hu with rfl | rfl | rfl | rfl | rfl | rfl | rfl | rfl <;> rfl) (by simp only [maxLen]; omega) (by omega) HBB.out ?_; intro A9 c9 w9 hown9 hg9 hadr9))
            go_roundw
            case rel =>
              refine ⟨i + 1, m + 1, A9, c9, by first | rfl | go_num, by omega, by have := HM.out; omega, rfl, ?_, Ext.grown HX8.out hg9 (fun j hj => (HO8.out.lt j hj).1), HK8.out.trans (KeepL.grown HO8.out (by simp) (Nat.le_refl _) hg9)⟩
              rw [nodesL, HNA.out]
              exact hown9
            case measure => simp [intOf]; omega
          · have HBN := hide (show nodeB m = zB 32 by unfold nodeB; simp only [hm0, if_false])
            have HNA := hide (show nodeAt m = ndZ by unfold nodeAt; simp only [hm0, if_false])
            have HU := hide (unpackz_ok g2 p (c2 - p) (by have := HC2.out; have := HP.out; omega) wr (by
              have := (HR2.out.keep HK5.out (by decide) (fun _ _ => by simp)).reads.sub (32 * i) 32 (by omega)
              rw [HH.out i m hi2 (by have := HM.out; omega), HBN.out, Nat.zero_add, ← HP.out] at this
              exact this))
            clear hm0
            go_wp2_with fail
            refine HU.out.mono ?_
            rintro e w6 ⟨rfl, hx6⟩
            have HX6 := hide (HX5.out.trans hx6)
            have HK6 := hide (HK5.out.trans (KeepL.of hx6 _ _ _ _))
            have HO6 := hide (hx6.own HO5.out)
            clear hx6 HU
            have HXA := hide (HX6.out.alloc (.cells ndZ.toArray 136))
            have HKA := hide (HK6.out.trans (KeepL.of ((Ext.refl w6).alloc (.cells ndZ.toArray 136)) _ _ _ _))
            have HBA := hide (Blk.new w6 136 ndZ.toArray)
            have HOA := hide (((Ext.refl w6).alloc (.cells ndZ.toArray 136)).own HO6.out)
            go_upto_region 12 with fail
            obtain ⟨q6, hq6⟩ : ∃ q, w6.heap.size = q := ⟨_, rfl⟩
            rw [hq6] at HBA ⊢
            clear hq6 HO6 HX6 HK6
            generalize w6.alloc _ = W7 at *
            have HLD := hide HBA.out.all
            have HNS := hide (node_size ndZ rfl)
            have hx8 := (Ext.refl W7).alloc (.cells ndZ.toArray 136)
            have HO8 := hide (hx8.own HOA.out)
            have HX8 := hide (HXA.out.trans hx8)
            have HK8 := hide (HKA.out.trans (KeepL.of hx8 _ _ _ _))
            have HRN := hide (show Reads (W7.alloc (.cells ndZ.toArray 136)) (W7.alloc (.cells ndZ.toArray 136)).heap.size 8 (some ⟨W7.heap.size, 0, none⟩) 1 ndZ from (Blk.new W7 136 ndZ.toArray).elem)
            have HBB := hide (show W.heap.size ≤ (W7.alloc (.cells ndZ.toArray 136)).heap.size from HX8.out.size)
            clear hx8
            go_wp2_with (first | ((with_reducible refine wpList_load_mid rfl 136 (.tmp 12) rfl q6 0 rfl ndZ _ HLD.out Tryz.underlying136 rfl HNS.out ?_)) | (at_builtin; refine wpList_append_any _ rfl (.tmp 43) (.tmp 45) 145 rfl W.heap.size 136 i0 _ 8 80 Tryz.underlying145 hi0 hz0 hz1 hz2 rfl (by omega) (.slice A5 m c5) m (nodesL m) rfl HO8.out _ (some ⟨W7.heap.size, 0, none⟩) 1 1 ndZ rfl HRN.out (by intro u hu; simp only [List.mem_cons, List.not_mem_nil, or_false] at hu; rcases hu with rfl | rfl | rfl | rfl | rfl | rfl | rfl | rfl <;> rfl) (by simp only [maxLen]; omega) (by omega) HBB.out ?_; intro A9 c9 w9 hown9 hg9 hadr9))
            go_roundw
            case rel =>
              refine ⟨i + 1, m + 1, A9, c9, by first | rfl | go_num, by omega, by have := HM.out; omega, rfl, ?_, Ext.grown HX8.out hg9 (fun j hj => (HO8.out.lt j hj).1), HK8.out.trans (KeepL.grown HO8.out (by simp) (Nat.le_refl _) hg9)⟩
              rw [nodesL, HNA.out]
              exact hown9
            case measure => simp [intOf]; omega
        · obtain rfl : i = 2 := by omega
          have hm2 : m = 2 * (k + 1) := by have := HM.out; omega
          go_wp2_with fail
          go_roundw
          case rel => exact ⟨k + 1, m, A5, c5, by first | rfl | go_num, by omega, hm2, rfl, HO5.out, HX5.out⟩
          case measure => simp [intOf]; omega
    · obtain rfl : k = 16 := by omega
      obtain rfl : m = 32 := by have := HM0.out; omega
      obtain ⟨g9, rfl, hg9, hgl9, -, -⟩ := own_addr HO.out (by omega)
      have HO9 := hide (own_mono HO.out (show w.heap.size ≤ W.heap.size from HX.out.size))
      have HX9 := hide (HX.out.trans HXK.out)
      go_wp2_with fail
      go_ret2
      exact ⟨_, _, rfl, HO9.out, HX9.out⟩
end
end Go.Proofs.YthmojneobkaolaaGreatDoor

namespace Go.Proofs.YthmojneobkaolaaGreatDoor
open Go.RowKit
set_option linter.unusedVariables false

/-- What the disk of an empty file system has. -/
structure Boot (S : Nat → Bt) (nd : Nat → Nat) (hs : Nat → Int) : Prop where
  mark : S 0 = markB
  quota : S 4 = zB 64
  log : S 5 = zB 64
  fors : flatS (fun i => S (1 + i)) 3 = packF nd hs
  nds : ∀ i, i < 16 → 37 ≤ nd i ∧ nd i < 256
  set : ∀ j, j < 32 → 0 ≤ hs j ∧ hs j < 256
  nodes : ∀ i, i < 16 → S (nd i) = nodeB (2 * i) ++ zB 32
/-- The cells of a file system. -/
def fsL (hd hl : Nat) (nd : Nat → Nat) (hs : Nat → Int) (g c tm hm : Nat) : List Value := [.pointer (some ⟨hd, 0, none⟩), .pointer (some ⟨hl, 0, none⟩)] ++ (forL nd hs ++ [.slice none 0 0, .slice (some ⟨g, 0, none⟩) 32 c, .map (some tm), .map (some hm)])
/-- The file system in memory. -/
structure FsAt (b : Nat) (w : World) (hd hf hl tm : Nat) (nd : Nat → Nat) (hs : Nat → Int) : Prop where
  box : ∃ g c hm, Blk w hf 154 (fsL hd hl nd hs g c tm hm).toArray ∧ w.ownsRow b 136 8 (.slice (some ⟨g, 0, none⟩) 32 c) 32 (nodesL 32)
  log : Blk w hl 239 (logV hd)
  todo : w.heap[tm]? = some (.map #[] 0)
  ge : b ≤ hf ∧ b ≤ hl ∧ b ≤ tm
section
variable {b : Nat} {w : World} {hd rs rn : Nat} {wv : Value} {nw : Nat} {S : Nat → Bt} {nd : Nat → Nat} {hs : Nat → Int}
set_option maxHeartbeats 400000 in
set_option maxRecDepth 100000 in
theorem mount_ok (h : DiskAt b w hd rs rn wv nw S) (hB : Boot S nd hs) :
    Calls Tryz.prog 25 #[.pointer (some ⟨hd, 0, none⟩)] w fun e w' => (∃ hf hl tm, e = .returned (.tuple #[.pointer (some ⟨hf, 0, none⟩), .int .i64 0]) ∧ FsAt w.heap.size w' hd hf hl tm nd hs) ∧ Ext w w' := by
  have HD := hide h
  have HBT := hide hB
  have hr0 := diskread_ok h 0 (by omega)
  rw [hB.mark] at hr0
  have HR0 := hide hr0
  have HFS := hide (for_size nd hs)
  clear h hr0 hB
  go_enter Tryz.func25, Tryz.ntmps25
  go_wp2_with fail
  refine HR0.out.mono ?_
  rintro e w1 ⟨A1, c1, rfl, ho1, hx1⟩
  have HX1 := hide hx1
  have HR1 := hide (Reads.of_own ho1)
  have HSZ := hide (disksize_ok (HD.out.ext hx1))
  clear ho1 hx1 HR0
  go_wp2_with fail
  refine HSZ.out.mono ?_
  rintro e w' ⟨rfl, hw'⟩
  subst hw'
  go_wp2_with fail
  refine HSZ.out.mono ?_
  rintro e w' ⟨rfl, hw'⟩
  subst hw'
  go_wp2_with fail
  refine (mark_ok _).mono ?_
  rintro e w2 ⟨g2, rfl, hg2, hb2, hx2⟩
  have HX2 := hide (HX1.out.trans hx2)
  have HM2 := hide (show Reads w2 w2.heap.size 1 (some ⟨g2, 0, none⟩) 64 (bytesV markB) from Blk.reads hb2)
  have HR2 := hide (hx2.reads HR1.out (Nat.le_refl _))
  clear hg2 hb2 hx2 HR1 HX1 HSZ
  go_wp2_with fail
  refine (equal_bytes _ _ _ _ markB _ _ _ _ HR2.out HM2.out (by omega)).mono ?_
  rintro e w3 ⟨rfl, d, rfl⟩
  have HX3 := hide (HX2.out.drewN d)
  clear HX2 HM2 HR2
  generalize w2.drewN d = w3 at *
  go_wp2_with fail
  refine (jopen_ok (HD.out.ext HX3.out) HBT.out.log).mono ?_
  rintro e w4 ⟨hl, rfl, hgl, hbl, hx4⟩
  have HX4 := hide (HX3.out.trans hx4)
  have HGL := hide (show w.heap.size ≤ hl from Nat.le_trans HX3.out.size hgl)
  have HBL := hide hbl
  clear hgl hbl hx4 HX3
  go_wp2_with fail
  refine (load_ok (HD.out.ext HX4.out) HBT.out.nds HBT.out.set HBT.out.fors).mono ?_
  rintro e w5 ⟨rfl, hx5⟩
  have HX5 := hide (HX4.out.trans hx5)
  have HBL5 := hide (HBL.out.ext hx5)
  clear hx5 HX4 HBL
  have HXA := hide (HX5.out.alloc (.cells for0 130))
  have HBLA := hide (HBL5.out.alloc (.cells for0 130))
  have HBA := hide (Blk.new w5 130 for0)
  have HQG := hide (show w.heap.size ≤ w5.heap.size from HX5.out.size)
  have HLQ := hide (show hl < w5.heap.size from HBL5.out.lt)
  have HL := hide (show (forL nd hs).length = 192 from forL_len nd hs)
  have HT := hide (show (w5.alloc (.cells for0 130)).there w5.heap.size 0 (forL nd hs).toArray.size by rw [show (forL nd hs).toArray.size = 192 from HL.out]; exact HBA.out.there_ 0 192 (Nat.le_refl _))
  go_upto_region 8 with ((with_reducible refine wpList_store_mid rfl 130 (.tmp 7) (.tmp 48) rfl w5.heap.size 0 (forL nd hs).toArray rfl ?_ ?_ ?_ (forL_one nd hs) ?_); (exact rfl); (exact HT.out); (rw [List.size_toArray]; exact HFS.out))
  have HF := hide (HBA.out.setAll (forL nd hs) (by rw [HL.out]; rfl))
  have HLF := hide (HBLA.out.grown (setCells_grown w5.heap.size (forL nd hs) (w5.alloc (.cells for0 130)) 0) (by have := HLQ.out; simp; omega))
  have HXF := hide (HXA.out.setCells HQG.out 0 (forL nd hs))
  obtain ⟨q, hq⟩ : ∃ q, w5.heap.size = q := ⟨_, rfl⟩
  rw [hq] at HF HLF HXF HLQ ⊢
  change Code.wp _ _ _ _ ((w5.alloc (.cells for0 130)).setCells q 0 (forL nd hs))
  clear HXA HBA HBLA HT HQG HX5 HBL5 hq
  generalize (w5.alloc _).setCells q 0 (forL nd hs) = W6 at *
  have HTF := hide (tree_of_for HF.out)
  have HTS := hide (treeL_size nd hs)
  go_upto_region 10 with fail
  go_wp2_with ((with_reducible refine wpList_load_mid rfl 128 (.tmp 56) rfl q 0 rfl (treeL nd hs) _ HTF.out Tryz.underlying128 rfl HTS.out ?_))
  refine (tree_ok (HD.out.ext HXF.out) (fun i hi => (HBT.out.nds i hi).2) HBT.out.nodes).mono ?_
  rintro e w7 ⟨g7, c7, rfl, ho7, hx7⟩
  have HX7 := hide (HXF.out.trans hx7)
  have HN7 := hide (own_mono ho7 (show w.heap.size ≤ W6.heap.size from HXF.out.size))
  have HF7 := hide (HF.out.ext hx7)
  have HL7 := hide (HLF.out.ext hx7)
  clear ho7 hx7 HXF HF HLF HTF HTS
  have hr4 := diskread_ok (HD.out.ext HX7.out) 4 (by omega)
  rw [HBT.out.quota] at hr4
  have HR4 := hide hr4
  clear hr4
  go_wp2_with fail
  refine HR4.out.mono ?_
  rintro e w8 ⟨A8, c8, rfl, ho8, hx8⟩
  have HX8 := hide (HX7.out.trans hx8)
  have HN8 := hide (hx8.own HN7.out)
  have HF8 := hide (HF7.out.ext hx8)
  have HL8 := hide (HL7.out.ext hx8)
  obtain ⟨g8, rfl, -, -, -, -⟩ := own_addr ho8 (by omega)
  have HR8 := hide (Reads.of_own ho8)
  clear ho8 hx8 HX7 HN7 HF7 HL7 HR4
  go_wp2_with fail
  refine (quotaunpack_ok _ _ _ _ HR8.out).mono ?_
  rintro e w9 ⟨rfl, hx9⟩
  have HX9 := hide (HX8.out.trans hx9)
  have HN9 := hide (hx9.own HN8.out)
  have HF9 := hide (HF8.out.ext hx9)
  have HL9 := hide (HL8.out.ext hx9)
  clear hx9 HX8 HN8 HF8 HL8 HR8
  have HLF := hide HF9.out.all
  have hm1 := run_mk 151 w9
  have HT9 := hide (heap_alloc_new w9 (.map #[] 0))
  have HXT := hide ((Ext.refl w9).alloc (.map #[] 0))
  have HGT := hide (show w.heap.size ≤ w9.heap.size from HX9.out.size)
  obtain ⟨tm, htm⟩ : ∃ tm, w9.heap.size = tm := ⟨_, rfl⟩
  rw [htm] at hm1 HT9 HGT
  generalize w9.alloc (.map #[] 0) = W10 at *
  have hm2 := run_mk 152 W10
  have HXU := hide ((Ext.refl W10).alloc (.map #[] 0))
  obtain ⟨um, hum⟩ : ∃ um, W10.heap.size = um := ⟨_, rfl⟩
  rw [hum] at hm2
  clear htm hum
  generalize W10.alloc (.map #[] 0) = W11 at *
  go_upto_region 18 with (first | ((with_reducible refine wpList_load_mid rfl 130 (.tmp 7) rfl q 0 rfl (forL nd hs) _ HLF.out Tryz.underlying130 rfl HFS.out ?_)) | (refine wpList_buildTo rfl _ _ rfl _ rfl (fsL hd hl nd hs g7 c7 tm um).toArray (by kernel_rfl) ?_))
  have hxf : Ext w9 (W11.alloc (.cells (fsL hd hl nd hs g7 c7 tm um).toArray 154)) := (HXT.out.trans HXU.out).alloc _
  have HBF := hide (Blk.new W11 154 (fsL hd hl nd hs g7 c7 tm um).toArray)
  have HGF := hide (show w.heap.size ≤ W11.heap.size from (HX9.out.trans (HXT.out.trans HXU.out)).size)
  have HTF := hide (show (W11.alloc (.cells (fsL hd hl nd hs g7 c7 tm um).toArray 154)).heap[tm]? = some (.map #[] 0) from ((HXU.out.alloc (.cells (fsL hd hl nd hs g7 c7 tm um).toArray 154)).block tm (lt_of_some HT9.out)).trans HT9.out)
  have HXF := hide (HX9.out.trans hxf)
  have HNF := hide (hxf.own HN9.out)
  have HLF' := hide (HL9.out.ext hxf)
  obtain ⟨hf, hhf⟩ : ∃ hf, W11.heap.size = hf := ⟨_, rfl⟩
  rw [hhf] at HBF HGF ⊢
  clear hhf hxf HT9 HXT HXU HL9 HF9 HN9 HX9 HLF hm1 hm2
  generalize W11.alloc _ = W12 at *
  have HLO := hide (lost_ok g7 c7 W12 (Reads.of_own HNF.out))
  go_wp2_with fail
  refine HLO.out.mono ?_
  rintro e w13 ⟨rfl, hx13⟩
  have HX13 := hide (HXF.out.trans hx13)
  have HFS13 := hide (show FsAt w.heap.size w13 hd hf hl tm nd hs from ⟨⟨g7, c7, um, HBF.out.ext hx13, hx13.own HNF.out⟩, HLF'.out.ext hx13, (hx13.block tm (lt_of_some HTF.out)).trans HTF.out, HGF.out, HGL.out, HGT.out⟩)
  clear hx13 HXF HBF HNF HLF' HTF HLO
  go_wp2_with fail
  go_loopw [88] (fun v wr => v = .int .i64 0 ∧ wr = w13) (fun _ _ => 0)
  case atStart => exact ⟨rfl, rfl⟩
  case round =>
    obtain ⟨rfl, hw⟩ := hrel
    subst hw
    go_wp2_with fail
    go_ret2
    exact ⟨⟨_, _, _, rfl, HFS13.out⟩, HX13.out⟩
end
end Go.Proofs.YthmojneobkaolaaGreatDoor

namespace Go.Proofs.YthmojneobkaolaaGreatDoor
open Go.RowKit
set_option linter.unusedVariables false

section
variable {b b' : Nat} {w : World} {hd rs rn : Nat} {wv : Value} {nw : Nat} {S : Nat → Bt} {nd : Nat → Nat} {hs : Nat → Int} {hf hl tm : Nat}
set_option maxRecDepth 100000 in
theorem bitslen_ok (w : World) : Calls Tryz.prog 227 #[.int .u64 0] w fun e w' => e = .returned (.int .i64 0) ∧ w' = w := by
  have H64 : Hid (Calls Tryz.prog 292 #[.int .u64 0] w fun e w' => e = .returned (.int .i64 0) ∧ w' = w) := by
    go_enter Tryz.func292, Tryz.ntmps292
    go_wp2_with fail
    go_ret
    exact ⟨ret_int (by kernel_rfl), rfl⟩
  go_enter Tryz.func227, Tryz.ntmps227
  go_wp2_with fail
  refine H64.out.mono ?_
  rintro e w' ⟨rfl, hw'⟩
  subst hw'
  go_wp2_with fail
  go_ret
  exact ⟨rfl, rfl⟩
set_option maxRecDepth 100000 in
theorem insw_ok (u : Value) (w : World) : Calls Tryz.prog 283 #[.slice none 0 0, .int .i64 0, .int .i64 0, u] w fun e w' => e = .returned (.tuple #[]) ∧ w' = w := by
  go_enter Tryz.func283, Tryz.ntmps283
  go_wp2_with fail
  go_loopw [8] (fun v wr => v = .int .i64 1 ∧ wr = w) (fun _ _ => 0)
  case atStart => exact ⟨rfl, rfl⟩
  case round =>
    obtain ⟨rfl, hw⟩ := hrel
    subst hw
    go_wp2_with fail
    (first | go_end0 | ((try simp only [Exit.inBlock, Exit.then]); refine bodyPost_ret (results_none rfl _ _ _) rfl ?_))
    exact ⟨rfl, rfl⟩
set_option maxRecDepth 100000 in
theorem pdqw_ok (u : Value) (w : World) : Calls Tryz.prog 226 #[.slice none 0 0, .int .i64 0, .int .i64 0, .int .i64 0, u] w fun e w' => e = .returned (.tuple #[]) ∧ w' = w := by
  go_enter Tryz.func226, Tryz.ntmps226
  go_wp2_with fail
  go_loopw [1, 2, 3] (fun v1 v2 v3 wr => v1 = .int .i64 0 ∧ v2 = .int .i64 0 ∧ v3 = .int .i64 0 ∧ wr = w) (fun _ _ _ _ => 0)
  case atStart => exact ⟨rfl, rfl, rfl, rfl⟩
  case round =>
    obtain ⟨rfl, rfl, rfl, hw⟩ := hrel
    subst hw
    go_wp2_with fail
    refine (insw_ok _ _).mono ?_
    rintro e w' ⟨rfl, hw'⟩
    subst hw'
    go_wp2_with fail
    (first | go_end0 | ((try simp only [Exit.inBlock, Exit.then]); refine bodyPost_ret (results_none rfl _ _ _) rfl ?_))
    exact ⟨rfl, rfl⟩
theorem nodes_fs {g c tm hm : Nat} {hd hl : Nat} {nd : Nat → Nat} {hs : Nat → Int} : (fsL hd hl nd hs g c tm hm)[1]? = some (.pointer (some ⟨hl, 0, none⟩)) ∧ (fsL hd hl nd hs g c tm hm)[196]? = some (.map (some tm)) := by
  unfold fsL
  refine ⟨by rw [List.getElem?_append_left (by simp)]; rfl, ?_⟩
  rw [List.getElem?_append_right (by simp), List.getElem?_append_right (by simp [forL_len]), forL_len]
  simp
set_option maxHeartbeats 4000000 in
set_option maxRecDepth 100000 in
theorem sortw_ok (u : Value) (w : World) : Calls Tryz.prog 150 #[.slice none 0 0, u] w fun e w' => e = .returned (.tuple #[]) ∧ w' = w := by
  go_enter Tryz.func150, Tryz.ntmps150
  go_wp2_with fail
  refine (bitslen_ok _).mono ?_
  rintro e w' ⟨rfl, hw'⟩
  subst hw'
  go_wp2_with fail
  refine (pdqw_ok _ _).mono ?_
  rintro e w' ⟨rfl, hw'⟩
  subst hw'
  go_wp2_with fail
  (first | go_end0 | ((try simp only [Exit.inBlock, Exit.then]); refine bodyPost_ret (results_none rfl _ _ _) rfl ?_))
  exact ⟨rfl, rfl⟩
set_option maxHeartbeats 4000000 in
set_option maxRecDepth 100000 in
theorem writes_ok (h : FsAt b w hd hf hl tm nd hs) : Calls Tryz.prog 75 #[.pointer (some ⟨hf, 0, none⟩)] w fun e w' => e = .returned (.slice none 0 0) ∧ Ext w w' := by
  obtain ⟨g, c, hm, hbx, -⟩ := h.box
  have c5 : w.cell? ⟨hf, 196, none⟩ = some (.map (some tm)) := by rw [hbx.cell, List.getElem?_toArray]; exact nodes_fs.2
  have hin := h.todo
  clear h hbx
  have hrg : (Instr.range 151 (.map (some tm))).run Tryz.prog w = .ok (.pointer (some ⟨w.heap.size, 0, none⟩)) (w.alloc (.mapIter (some tm) 0 #[] 0)) := by
    have hu : (underlying 151).run Tryz.prog w = .ok _ w := run_underlying Tryz.underlying151 w
    simp only [Instr.range, Sem.run_bind, hu, getObj, Sem.run, hin, Result.andThen]
    rfl
  have hin2 : (w.alloc (.mapIter (some tm) 0 #[] 0)).heap[tm]? = some (.map #[] 0) := (((Ext.refl w).alloc _).block tm (lt_of_some hin)).trans hin
  have hnx : ∀ ty, (Instr.next (.pointer (some ⟨w.heap.size, 0, none⟩)) false ty).run Tryz.prog (w.alloc (.mapIter (some tm) 0 #[] 0)) = .ok (.tuple #[.bool false]) (w.alloc (.mapIter (some tm) 0 #[] 0)) := fun ty => by
    rcases run_next_at (P := Tryz.prog) (w.alloc (.mapIter (some tm) 0 #[] 0)) ty w.heap.size tm 0 0 #[] #[] 0 (heap_alloc_new w _) hin2 (by simp) (Nat.le_refl _) with ⟨_, h⟩ | ⟨e, he, -⟩
    · exact h
    · simp [leftOf] at he
  have HX := hide ((Ext.refl w).alloc (.mapIter (some tm) 0 #[] 0))
  go_enter Tryz.func75, Tryz.ntmps75
  go_upto_region 3 with fail
  generalize w.alloc _ = W at *
  generalize w.heap.size = it at *
  clear hrg hin hin2 c5
  go_loopw [11, 3] (fun _ v wr => v = .slice none 0 0 ∧ wr = W) (fun _ _ _ => 0)
  case atStart => exact ⟨rfl, rfl⟩
  case round =>
    obtain ⟨rfl, hw⟩ := hrel
    subst hw
    go_wp2_with fail
    refine (sortw_ok _ _).mono ?_
    rintro e w' ⟨rfl, hw'⟩
    subst hw'
    go_wp2_with fail
    go_ret
    exact ⟨rfl, HX.out⟩
end
section
variable {b b' : Nat} {w : World} {hd rs rn : Nat} {wv : Value} {nw : Nat} {S : Nat → Bt} {nd : Nat → Nat} {hs : Nat → Int} {hf hl tm : Nat}
theorem FsAt.ext {w' : World} (h : FsAt b w hd hf hl tm nd hs) (hx : Ext w w') : FsAt b w' hd hf hl tm nd hs := by
  obtain ⟨g, c, hm, hbx, ho⟩ := h.box
  exact ⟨⟨g, c, hm, hbx.ext hx, hx.own ho⟩, h.log.ext hx, (hx.block tm (lt_of_some h.todo)).trans h.todo, h.ge⟩
theorem ne_safe {cs : Array Value} {g : Nat} (h : DiskAt b w hd rs rn wv nw S) (hb : Blk w g 154 cs) : g ∉ [rs] := by
  obtain ⟨T, hT, hs⟩ := h.safe
  intro e
  rw [List.mem_singleton.1 e] at hb
  exact Blk.ne_ hb hs (by decide) rfl
theorem DiskAt.keep {w' : World} {L : List TypeId} (h : DiskAt b w hd rs rn wv nw S) (hk : KeepL b' L [] [] w w') (h1 : 123 ∉ L) (h2 : 5 ∉ L) (h3 : 229 ∉ L) : DiskAt b w' hd rs rn wv nw S := by
  obtain ⟨T, hT, hs⟩ := h.safe
  obtain ⟨N, L', hN, hL, hn⟩ := h.now
  obtain ⟨xs, ho⟩ := h.wait
  exact ⟨hk.blk h.box h1 (by simp), ⟨T, hT, hk.blk hs h2 (by simp)⟩, ⟨N, L', hN, hL, hk.blk hn h2 (by simp)⟩, h.ok, ⟨xs, hk.own ho h3 (fun _ _ => by simp)⟩, h.ne, h.ge⟩
set_option maxHeartbeats 4000000 in
set_option maxRecDepth 100000 in
theorem sync_ok (h : FsAt b' w hd hf hl tm nd hs) (hd' : DiskAt b w hd rs rn wv nw S) (hbb : b ≤ b') : Calls Tryz.prog 27 #[.pointer (some ⟨hf, 0, none⟩)] w fun e w' => e = .returned (.int .i64 0) ∧ DiskAt b w' hd rs rn (.slice none 0 0) 0 S ∧ KeepL b [123, 154] [rs] [] w w' := by
  have H := hide h
  have HD := hide hd'
  obtain ⟨g, c, hm, hbx, -⟩ := h.box
  have HBX := hide hbx
  have HLG := hide h.log
  have HGE := hide h.ge
  have c1 : w.drew.cell? ⟨hf, 1, none⟩ = some (.pointer (some ⟨hl, 0, none⟩)) := by rw [hbx.drew.cell, List.getElem?_toArray]; exact nodes_fs.1
  clear h hd' hbx
  go_enter Tryz.func27, Tryz.ntmps27
  go_upto_region 1 with fail
  refine begin_held (fun (w' : World) => w'.cell? ⟨hf, 1, none⟩ = some (.pointer (some ⟨hl, 0, none⟩))) (by kernel_rfl) ?_
  have hS0 : (fun (w' : World) => w'.cell? ⟨hf, 1, none⟩ = some (.pointer (some ⟨hl, 0, none⟩))) (w.drew) := by exact c1
  have HX0 := hide ((Ext.refl w).drew)
  generalize w.drew = wd at HX0 hS0 ⊢
  refine takeH_op (i := 0) (d := some 4) (v := ?v1001) hS0 rfl (by kernel_rfl) (by kernel_rfl) (by kernel_rfl) (fun _ _ _ h => h) (fun oi ho => ?hy1001) ?rest1001
  case hy1001 => (simp only [List.getElem?_toArray, List.getElem?_cons_zero, Option.some.injEq] at ho; subst ho; refine Or.inl ⟨by rfl, fun w' _ => ?_⟩; go_simp; try (with_reducible rfl))
  simp only [Act.put, List.setIfInBounds_toArray, List.set_cons_zero, List.set_cons_succ]
  refine takeH_op (i := 1) (d := some 5) (v := ?v1002) hS0 rfl (by kernel_rfl) (by kernel_rfl) (by kernel_rfl) (fun _ _ _ h => h) (fun oi ho => ?hy1002) ?rest1002
  case hy1002 => (simp only [List.getElem?_toArray, List.getElem?_cons_succ, List.getElem?_cons_zero, Option.some.injEq] at ho; subst ho; refine Or.inl ⟨by rfl, fun w' _ => ?_⟩; go_simp; try (with_reducible rfl))
  simp only [Act.put, List.setIfInBounds_toArray, List.set_cons_zero, List.set_cons_succ]
  refine takeH_op (i := 2) (d := some 6) (v := ?v1003) hS0 rfl (by kernel_rfl) (by kernel_rfl) (by kernel_rfl) (fun _ _ _ h => h) (fun oi ho => ?hy1003) ?rest1003
  case hy1003 => (simp only [List.getElem?_toArray, List.getElem?_cons_succ, List.getElem?_cons_zero, Option.some.injEq] at ho; subst ho; refine Or.inl ⟨by rfl, fun w' _ => ?_⟩; go_simp; try (with_reducible rfl))
  simp only [Act.put, List.setIfInBounds_toArray, List.set_cons_zero, List.set_cons_succ]
  refine takeH_op (i := 3) (d := some 7) (v := ?v1004) hS0 rfl (by kernel_rfl) (by kernel_rfl) (by kernel_rfl) (fun _ _ _ h => h) (fun oi ho => ?hy1004) ?rest1004
  case hy1004 => (simp only [List.getElem?_toArray, List.getElem?_cons_succ, List.getElem?_cons_zero, Option.some.injEq] at ho; subst ho; refine Or.inl ⟨by rfl, fun w' hS' => ?_⟩; skip; go_simp; try (with_reducible rfl))
  simp only [Act.put, List.setIfInBounds_toArray, List.set_cons_zero, List.set_cons_succ]
  refine takeH_op (i := 4) (d := some 8) (v := ?v1005) hS0 rfl (by kernel_rfl) (by kernel_rfl) (by kernel_rfl) (fun _ _ _ h => h) (fun oi ho => ?hy1005) ?rest1005
  case hy1005 => (simp only [List.getElem?_toArray, List.getElem?_cons_succ, List.getElem?_cons_zero, Option.some.injEq] at ho; subst ho; refine Or.inl ⟨by rfl, fun w' _ => ?_⟩; go_simp; try (with_reducible rfl))
  simp only [Act.put, List.setIfInBounds_toArray, List.set_cons_zero, List.set_cons_succ]
  refine readyH (rs := [5]) (by kernel_rfl) (by simp) ?_
  refine consH_op (by decide) (fun o ho K hK => ?_) ?_
  simp only [List.getElem?_toArray, List.getElem?_cons_succ, List.getElem?_cons_zero, Option.some.injEq] at ho
  subst ho
  (go_simp; refine (writes_ok (H.out.ext HX0.out)).mono ?_; rintro e w5 ⟨rfl, hx5⟩; dsimp only)
  have hS1006 : (fun (w' : World) => w'.cell? ⟨hf, 1, none⟩ = some (.pointer (some ⟨hl, 0, none⟩))) (w5) := by exact hx5.cell hS0
  refine hK _ _ hS1006 ?_
  clear hK K
  try (simp only [Act.put, List.setIfInBounds_toArray, List.set_cons_zero, List.set_cons_succ])
  have HX5 := hide (HX0.out.trans hx5)
  clear hx5
  refine readyH (rs := [6]) (by kernel_rfl) (by simp) ?_
  refine consH_op (by decide) (fun o ho K hK => ?_) ?_
  simp only [List.getElem?_toArray, List.getElem?_cons_succ, List.getElem?_cons_zero, Option.some.injEq] at ho
  subst ho
  (go_simp; refine (jcommit_ok (HD.out.ext HX5.out) (HLG.out.ext HX5.out)).mono ?_; rintro e w6 ⟨rfl, hd6, hk6⟩; dsimp only)
  have hS1007 : (fun (w' : World) => w'.cell? ⟨hf, 1, none⟩ = some (.pointer (some ⟨hl, 0, none⟩))) (w6) := by exact (hk6.blk (HBX.out.ext HX5.out) (by decide) (by have := HBX.out; have := hd6.safe; exact ne_safe HD.out HBX.out)).cell 1 |>.trans (by rw [List.getElem?_toArray]; exact nodes_fs.1)
  refine hK _ _ hS1007 ?_
  clear hK K
  try (simp only [Act.put, List.setIfInBounds_toArray, List.set_cons_zero, List.set_cons_succ])
  have HD6 := hide hd6
  have HK6 := hide ((KeepL.of HX5.out b [123] [rs] []).trans hk6)
  clear hd6 hk6
  refine takeH_op (i := 7) (d := some 3) (v := ?v1008) hS1007 rfl (by kernel_rfl) (by kernel_rfl) (by kernel_rfl) (fun _ _ _ h => h) (fun oi ho => ?hy1008) ?rest1008
  case hy1008 => (simp only [List.getElem?_toArray, List.getElem?_cons_succ, List.getElem?_cons_zero, Option.some.injEq] at ho; subst ho; refine Or.inl ⟨by rfl, fun w' _ => ?_⟩; go_simp; try (with_reducible rfl))
  simp only [Act.put, List.setIfInBounds_toArray, List.set_cons_zero, List.set_cons_succ]
  refine wpAnyH_done (by kernel_rfl) ?_ _
  rotate_left
  exact allH_nil
  exact allH_nil
  have hmk := run_mk 151 w6
  have HXM := hide ((Ext.refl w6).alloc (.map #[] 0))
  have HBM := hide ((HK6.out.blk HBX.out (by decide) (ne_safe HD.out HBX.out)).ext HXM.out)
  have HDM := hide (HD6.out.ext HXM.out)
  have HKM := hide (HK6.out.trans (KeepL.of HXM.out _ _ _ _))
  clear HK6 HD6 HXM
  generalize w6.alloc (.map #[] 0) = W7 at *
  generalize w6.heap.size = nm at *
  have c9 : W7.cell? ⟨hf, 196, none⟩ = some (.map (some tm)) := by rw [HBM.out.cell, List.getElem?_toArray]; exact nodes_fs.2
  have f9 := HBM.out.frozen 196
  have hks : KeepL b [154] [] [] W7 (W7.setCell ⟨hf, 196, none⟩ (.map (some nm))) := KeepL.set HBM.out (.inl (by simp)) (Nat.le_trans hbb HGE.out.1) _ _
  have HKS := hide ((HKM.out.wide (L := [123, 154]) (G := [rs]) (M := []) (Nat.le_refl _) (by simp) (by simp) (by simp)).trans (hks.wide (Nat.le_refl _) (by simp) (by simp) (by simp)))
  have HDS := hide (HDM.out.keep hks (by decide) (by decide) (by decide))
  clear hks HKM HDM HBM
  go_wp2_with fail
  go_ret
  exact ⟨rfl, HDS.out, HKS.out⟩
end
end Go.Proofs.YthmojneobkaolaaGreatDoor

namespace Go.Proofs.YthmojneobkaolaaGreatDoor
open Go.RowKit
set_option linter.unusedVariables false

def ndK (k i : Nat) : Nat := if i < k then 37 + i else 0
def hsK : Nat → Nat → Int
  | 0 => fun _ => 0
  | k + 1 => updN (hsK k) ((37 + k) / 8) (bits BinOp.or IntKind.u8 (hsK k ((37 + k) / 8)) ((2 : Int) ^ ((37 + k) % 8) % 256))
theorem hsK_ok : ∀ k, k < 17 → ∀ j, j < 32 → 0 ≤ hsK k j ∧ hsK k j < 256 := by decide +kernel
theorem forL_nd (nd : Nat → Nat) (hs : Nat → Int) (i x : Nat) (hi : i < 16) : (forL nd hs).toArray.setIfInBounds i (.int .i64 (x : Int)) = (forL (updN nd i x) hs).toArray := by
  apply Array.ext_getElem?
  intro o
  by_cases ho : o < 192
  · by_cases e : o = i
    · subst e
      rw [Array.getElem?_setIfInBounds_self_of_lt (by rw [List.size_toArray, forL_len]; exact ho), List.getElem?_toArray, forL_at _ _ _ ho]
      unfold forF
      rw [if_pos hi, updN_same]
    · rw [Array.getElem?_setIfInBounds_ne (fun e' => e e'.symm), List.getElem?_toArray, List.getElem?_toArray, forL_at _ _ _ ho, forL_at _ _ _ ho]
      unfold forF
      rw [updN_other _ _ _ _ e]
  · rw [Array.getElem?_eq_none (by rw [Array.size_setIfInBounds, List.size_toArray, forL_len]; omega), Array.getElem?_eq_none (by rw [List.size_toArray, forL_len]; omega)]
theorem forL_hs (nd : Nat → Nat) (hs hs' : Nat → Int) : arrSet (forL nd hs).toArray 16 (hsL hs') = (forL nd hs').toArray := by
  apply Array.ext_getElem?
  intro o
  rw [arrSet_get _ _ _ (by rw [hsL_len, List.size_toArray, forL_len]; omega), hsL_len, List.getElem?_toArray, List.getElem?_toArray]
  by_cases ho : o < 192
  · rw [forL_at _ _ _ ho, forL_at _ _ _ ho]
    by_cases h : 16 ≤ o ∧ o < 16 + 32
    · rw [if_pos h, hsL_at _ _ (by omega)]
      unfold forF hsF
      rw [if_neg (by omega), if_pos (by omega)]
    · rw [if_neg h]
      unfold forF
      by_cases h1 : o < 16
      · rw [if_pos h1, if_pos h1]
      · have h2 : ¬ o < 48 := by omega
        rw [if_neg h1, if_neg h1, if_neg h2, if_neg h2]
  · rw [if_neg (by omega), List.getElem?_eq_none (by rw [forL_len]; omega), List.getElem?_eq_none (by rw [forL_len]; omega)]
theorem for_set_range {w : World} {g : Nat} {nd : Nat → Nat} {hs : Nat → Int} (h : Blk w g 130 (forL nd hs).toArray) : w.rangeAt g 16 (hsL hs) := h.range _ _ fun j v hv => by
  have hj : j < 32 := by have := (List.getElem?_eq_some_iff.1 hv).1; rwa [hsL_len] at this
  rw [List.getElem?_toArray, forL_at _ _ _ (by omega), ← hv, hsL_at _ _ hj]
  unfold forF hsF
  rw [if_neg (by omega), if_pos (by omega)]
  congr 3
  omega
theorem ndK_next (k : Nat) : updN (ndK k) k (37 + k) = ndK (k + 1) := by
  funext i
  unfold updN ndK
  by_cases e : i = k
  · subst e
    rw [if_pos rfl, if_pos (by omega)]
  · rw [if_neg e]
    by_cases h : i < k
    · rw [if_pos h, if_pos (by omega)]
    · rw [if_neg h, if_neg (by omega)]
theorem for_start : for0 = (forL (ndK 0) (hsK 0)).toArray := by
  rw [for0_eq]
  congr 1
/-- The bytes of the forest, sector by sector. -/
def pieceF (k : Nat) : Bt := ((packF (ndK 16) (hsK 16)).drop (64 * k)).take 64
theorem pieceF_len (k : Nat) (hk : k < 3) : (pieceF k).length = 64 := by
  unfold pieceF
  rw [List.length_take, List.length_drop, packF_len]
  omega
def forS : Nat → Nat → Bt
  | 0 => fun _ => zero64
  | k + 1 => updN (forS k) (1 + k) (pieceF k)
def bootS : Nat → Bt := updN (updN (forS 3) 37 (rootB ++ zB 32)) 0 markB
theorem zero_same (n : Nat) : updN (fun _ => zero64) n zero64 = fun _ => zero64 := by
  funext i
  unfold updN
  split <;> rfl
theorem bootS_far (i : Nat) (h : 38 ≤ i ∨ i = 4 ∨ i = 5) : bootS i = zero64 := by
  unfold bootS
  rw [updN_other _ _ _ _ (by omega), updN_other _ _ _ _ (by omega)]
  show updN (updN (updN (fun _ => zero64) (1 + 0) _) (1 + 1) _) (1 + 2) _ i = _
  rw [updN_other _ _ _ _ (by omega), updN_other _ _ _ _ (by omega), updN_other _ _ _ _ (by omega)]
theorem bootS_for (k : Nat) (hk : k < 3) : bootS (1 + k) = pieceF k := by
  unfold bootS
  rw [updN_other _ _ _ _ (by omega), updN_other _ _ _ _ (by omega)]
  show updN (updN (updN (fun _ => zero64) (1 + 0) (pieceF 0)) (1 + 1) (pieceF 1)) (1 + 2) (pieceF 2) (1 + k) = _
  rcases (show k = 0 ∨ k = 1 ∨ k = 2 by omega) with rfl | rfl | rfl
  · rw [updN_other _ _ _ _ (by omega), updN_other _ _ _ _ (by omega), updN_same]
  · rw [updN_other _ _ _ _ (by omega), updN_same]
  · rw [updN_same]
theorem boot_ok : Boot bootS (ndK 16) (hsK 16) where
  mark := by unfold bootS; exact updN_same _ _ _
  quota := bootS_far 4 (by omega)
  log := bootS_far 5 (by omega)
  fors := by
    show (([] ++ bootS (1 + 0)) ++ bootS (1 + 1)) ++ bootS (1 + 2) = _
    rw [bootS_for 0 (by omega), bootS_for 1 (by omega), bootS_for 2 (by omega), List.nil_append]
    unfold pieceF
    generalize hL : packF (ndK 16) (hsK 16) = L
    have hl : L.length = 192 := by rw [← hL, packF_len]
    rw [show ((L.drop (64 * 2)).take 64) = L.drop 128 from List.take_of_length_le (by rw [List.length_drop]; omega), show 64 * 0 = 0 from rfl, List.drop_zero, List.append_assoc]
    have h2 : (L.drop (64 * 1)).take 64 ++ L.drop 128 = L.drop 64 := by
      have := List.take_append_drop 64 (L.drop 64)
      rw [List.drop_drop] at this
      exact this
    rw [h2, List.take_append_drop]
  nds := fun i hi => by unfold ndK; rw [if_pos hi]; omega
  set := fun j hj => hsK_ok 16 (by omega) j hj
  nodes := fun i hi => by
    have e : ndK 16 i = 37 + i := by unfold ndK; rw [if_pos hi]
    rw [e]
    by_cases h : i = 0
    · subst h
      show updN _ 0 _ 37 = _
      rw [updN_other _ _ _ _ (by omega), updN_same]
      rfl
    · rw [bootS_far _ (by omega)]
      unfold nodeB
      rw [if_neg (by omega)]
      rfl
end Go.Proofs.YthmojneobkaolaaGreatDoor

namespace Go.Proofs.YthmojneobkaolaaGreatDoor
open Go.RowKit
set_option linter.unusedVariables false

theorem third_slice (g c k p q : Nat) (hk : k < 3) (hp : p = 64 * k) (hq : q = 64 * k + 64) (hc : 192 ≤ c) (W : World) : (Instr.slice 29 (.slice (some ⟨g, 0, none⟩) 192 c) (some (.int .i64 (p : Int))) (some (.int .i64 (q : Int))) none).run Tryz.prog W = .ok (.slice (some ⟨g, p, none⟩) 64 (c - p)) W := by
  obtain ⟨i0, hi0, hz0, hz1, hz2⟩ := info_parts byte_info
  have he : Tryz.prog.elem 29 = 5 := by kernel_rfl
  rw [run_slice_lh W 29 (some ⟨g, 0, none⟩) 192 c (by kernel_rfl) .i64 .i64 (p : Int) (q : Int) (by omega) (by omega) (by omega), he]
  have hne : ¬ c = p := by omega
  have e3 : q - p = 64 := by omega
  simp only [Int.toNat_natCast]
  simp [sizeOf, typeInfo, hi0, hz1, sliced, Result.andThen, hne, add_lit, e3]
theorem DiskAt.rnlt {b : Nat} {w : World} {hd rs rn : Nat} {wv : Value} {nw : Nat} {S : Nat → Bt} (h : DiskAt b w hd rs rn wv nw S) : rn < w.heap.size := h.now.lt
theorem BAt.of_blk {w : World} {g : Nat} {bs : Bt} (h : Blk w g 5 (bytesV bs).toArray) : BAt w (some ⟨g, 0, none⟩) bs.length bs := ⟨rfl, fun _ => ⟨g, 0, _, rfl, h, fun j u hu => by rw [Nat.zero_add, List.getElem?_toArray]; exact hu⟩⟩
theorem root_zeros (g7 : Nat) (W : World) (hb : Blk W g7 5 (bytesV rootB).toArray) : ∃ (R : Array Value) (G : Nat), (∀ ty, (Builtin.append_ #[29, 3] ty #[.slice (some ⟨g7, 0, none⟩) 32 32, .int .i64 32]).run Tryz.prog W = .ok (.slice (some ⟨W.heap.size, 0, none⟩) 64 G) (W.drew.alloc (.cells R 5))) ∧ BAt (W.drew.alloc (.cells R 5)) (some ⟨W.heap.size, 0, none⟩) 64 (rootB ++ zB 32) := by
  obtain ⟨i0, hi0, hz0, hz1, hz2⟩ := info_parts byte_info
  have hold : (Builtin.firstCells i0.size 32 (.slice (some ⟨g7, 0, none⟩) 32 32)).run Tryz.prog W.drew = .ok (bytesV rootB).toArray W.drew := by
    rw [hz1]
    exact run_firstCells_some W.drew 1 32 ⟨g7, 0, none⟩ 32 32 (bytesV rootB) (by rw [bytesV_length]; rfl) (fun j v hj => by rw [add_lit, Nat.zero_add]; show W.cell? _ = _; rw [hb.cell, List.getElem?_toArray]; exact hj)
  obtain ⟨G, hG⟩ : ∃ G, grownCap W 64 32 5 = G := ⟨_, rfl⟩
  refine ⟨(bytesV rootB).toArray ++ Builtin.zeroCells (Value.int .u8 0).cells 32 ++ Builtin.zeroCells (Value.int .u8 0).cells (G - 64), G, fun ty => ?_, ?_⟩
  · have h := Lib.run_append_grow_zeros W 29 3 ty 5 i0 _ .i64 .i64 Tryz.underlying29 Tryz.underlying3 hi0 hz0 (some ⟨g7, 0, none⟩) 32 32 (bytesV rootB) hold 32 (by omega) (by omega) (by omega) (by omega) (by rw [hz2]; omega) (by rw [hz2]; exact growslice_fits (by omega) (by omega))
    rw [hG] at h
    exact h
  · refine ⟨by decide, fun _ => ⟨W.heap.size, 0, _, rfl, Blk.new' W.drew _ _ rfl, fun j u hu => ?_⟩⟩
    rw [Nat.zero_add]
    have hj : j < 64 := by
      have := (List.getElem?_eq_some_iff.1 hu).1
      rw [bytesV_length] at this
      exact this
    have e : (bytesV rootB).toArray ++ Builtin.zeroCells (Value.int .u8 0).cells 32 = (bytesV (rootB ++ zB 32)).toArray := by
      have h1 : Builtin.zeroCells (Value.int .u8 0).cells 32 = (bytesV (zB 32)).toArray := made_bytes 32
      rw [h1, bytesV_append, List.append_toArray]
    rw [e, Array.getElem?_append_left (by rw [List.size_toArray, bytesV_length]; exact hj), List.getElem?_toArray]
    exact hu
theorem KeepL.newer {b q : Nat} {L L' : List TypeId} {G G' M M' : List Nat} {w0 w w' : World} (h : KeepL b L G M w0 w) (k : KeepL q L' G' M' w w') (hq : w0.heap.size ≤ q) : KeepL b L G M w0 w' := by
  have e : ∀ i, i < w0.heap.size → w'.heap[i]? = w.heap[i]? := fun i hi => k.low i (by omega) (Nat.lt_of_lt_of_le hi h.size)
  exact ⟨k.os.trans h.os, k.tape.trans h.tape, k.output.trans h.output, Nat.le_trans h.size k.size, fun i hb hi => (e i hi).trans (h.low i hb hi), fun i cs t fz hc ht hg => (e i (lt_of_some hc)).trans (h.cells i cs t fz hc ht hg), fun i o hc hn hm => (e i (lt_of_some hc)).trans (h.rest i o hc hn hm)⟩
abbrev dTs : List TypeId := [123, 229]
/-- While the disk is filled with zeros. -/
def F1 (b : Nat) (hd rs rn gz : Nat) (w0 : World) (v : Value) (wr : World) : Prop := ∃ (n : Nat) (wv : Value), v = .int .i64 (n : Int) ∧ n ≤ 256 ∧ DiskAt b wr hd rs rn wv n (fun _ => zero64) ∧ Blk wr gz 5 (bytesV zero64).toArray ∧ KeepL b dTs [rn] [] w0 wr
/-- While the forest is made. -/
def F2 (q : Nat) (w0 : World) (v : Value) (wr : World) : Prop := ∃ k : Nat, v = .int .i64 (k : Int) ∧ k ≤ 16 ∧ Blk wr q 130 (forL (ndK k) (hsK k)).toArray ∧ KeepL q [130] [] [] w0 wr
/-- While it is written. -/
def F3 (b : Nat) (hd rs rn n0 : Nat) (w0 : World) (v : Value) (wr : World) : Prop := ∃ (k : Nat) (wv : Value), v = .int .i64 (k : Int) ∧ k ≤ 3 ∧ DiskAt b wr hd rs rn wv (n0 + k) (forS k) ∧ KeepL b dTs [rn] [] w0 wr
section
variable {b : Nat} {w : World} {hd rs rn : Nat} {wv : Value} {nw : Nat}
set_option maxHeartbeats 4000000 in
set_option maxRecDepth 100000 in
theorem format_ok (h : DiskAt b w hd rs rn wv 0 (fun _ => zero64)) (hbw : b ≤ w.heap.size) : Calls Tryz.prog 24 #[.pointer (some ⟨hd, 0, none⟩)] w fun e w' => e = .returned (.int .i64 0) ∧ DiskAt b w' hd rs rn (.slice none 0 0) 0 bootS ∧ KeepL b dTs [rn, rs] [] w w' := by
  have HD := hide h
  have HBW := hide hbw
  have HSZ := hide (disksize_ok h)
  clear h hbw
  go_enter Tryz.func24, Tryz.ntmps24
  go_wp2_with fail
  refine HSZ.out.mono ?_
  rintro e w' ⟨rfl, hw'⟩
  subst hw'
  clear HSZ
  have hmk := run_made 64 (by omega) w
  change (Instr.makeSlice 29 (.int .i64 64) (.int .i64 64)).run Tryz.prog w = .ok (.slice (some ⟨w.heap.size, 0, none⟩) 64 64) (w.alloc (.cells (bytesV zero64).toArray 5)) at hmk
  have hx1 := (Ext.refl w).alloc (.cells (bytesV zero64).toArray 5)
  have HX1 := hide hx1
  have HGZ := hide (Blk.new w 5 (bytesV zero64).toArray)
  have HD1 := hide (HD.out.ext hx1)
  have HRN := hide HD.out.rnlt
  have HSZ := hide (disksize_ok (HD.out.ext hx1))
  clear hx1
  go_upto_region 4 with fail
  obtain ⟨gz, hgz⟩ : ∃ g, w.heap.size = g := ⟨_, rfl⟩
  have HGW := hide (show b ≤ gz by have := HBW.out; omega)
  rw [hgz] at HGZ HRN ⊢
  clear hgz hmk
  generalize w.alloc _ = W at *
  go_wp2_with fail
  refine HSZ.out.mono ?_
  rintro e w' ⟨rfl, hw'⟩
  subst hw'
  clear HSZ
  go_wp2_with fail
  go_loopw [18] (F1 b hd rs rn gz W · ·) (fun v _ => 256 - (intOf v).toNat)
  case atStart => exact ⟨0, wv, rfl, by omega, HD1.out, HGZ.out, KeepL.refl _ _ _ _ _⟩
  case round =>
    obtain ⟨n, wv1, rfl, hn, hd1, hz1, hk1⟩ := hrel
    have HDN := hide hd1
    have HZN := hide hz1
    have HKN := hide hk1
    clear hd1 hz1 hk1
    by_cases hlt : n < 256
    · have hlt' : (n : Int) < 256 := by omega
      have HW := hide (diskwrite_ok HDN.out (Nat.le_trans HBW.out (Nat.le_trans HX1.out.size HKN.out.size)) (by omega) n hlt (some ⟨gz, 0, none⟩) 64 zero64 (BAt.of_blk HZN.out) (fun ad e => by injection e with e; subst e; have := HRN.out; dsimp only; omega))
      go_wp2_with fail
      refine HW.out.mono ?_
      rintro e w2 ⟨rfl, ⟨wv2, hd2⟩, hk2⟩
      rw [zero_same] at hd2
      have HD2 := hide hd2
      have HK2 := hide hk2
      clear hd2 hk2 HW
      go_wp2_with fail
      go_roundw
      case rel => exact ⟨n + 1, wv2, by first | rfl | go_num, by omega, HD2.out, HK2.out.blk HZN.out (by decide) (by have := HRN.out; simp; omega), HKN.out.trans HK2.out⟩
      case measure => simp [intOf]; omega
    · have d256 : decide ((n : Int) < 256) = false := decide_eq_false (by omega)
      have HN := hide hn
      clear hn hlt
      have HXA := hide ((Ext.refl wr).alloc (.cells for0 130))
      have HBF := hide (show Blk (wr.alloc (.cells for0 130)) wr.heap.size 130 (forL (ndK 0) (hsK 0)).toArray by
        have h := Blk.new wr 130 for0
        unfold Blk at h ⊢
        rw [h, for_start])
      go_upto_region 10 with fail
      obtain ⟨q, hq⟩ : ∃ q, wr.heap.size = q := ⟨_, rfl⟩
      have HQ := hide (show w.heap.size ≤ q by have := Nat.le_trans HX1.out.size HKN.out.size; omega)
      have HQ2 := hide (show W.heap.size ≤ q by have := HKN.out.size; omega)
      have HDF := hide (HDN.out.ext HXA.out)
      have HKF := hide (HKN.out.trans (KeepL.of HXA.out _ _ _ _))
      rw [hq] at HBF ⊢
      clear hq HXA HDN HKN HZN
      generalize wr.alloc _ = W2 at *
      go_wp2_with fail
      go_loopw [26] (F2 q W2 · ·) (fun v _ => 16 - (intOf v).toNat)
      case atStart => exact ⟨0, rfl, by omega, HBF.out, KeepL.refl _ _ _ _ _⟩
      case round =>
        clear HBF
        obtain ⟨k, rfl, hk, hbk, hkk⟩ := hrel
        have HBK := hide hbk
        have HKK := hide hkk
        clear hbk hkk
        by_cases hl2 : k < 16
        · have hl2' : (k : Int) < 16 := by omega
          have hk0 : (0 : Int) ≤ (k : Int) := by omega
          have ck : wr.cell? ⟨q, k, none⟩ = some (.int .i64 (ndK k k : Int)) := by
            rw [HBK.out.cell, List.getElem?_toArray, forL_at _ _ _ (by omega)]
            unfold forF
            rw [if_pos hl2]
          have fk := HBK.out.frozen k
          have e37 : (37 : Int) + (k : Int) = ((37 + k : Nat) : Int) := by omega
          have HB1 := hide (HBK.out.set_ k (.int .i64 ((37 + k : Nat) : Int)))
          rw [forL_nd _ _ _ _ hl2, ndK_next] at HB1
          have HK1 := hide (HKK.out.trans (KeepL.set HBK.out (.inl (by simp)) (Nat.le_refl _) k (.int .i64 ((37 + k : Nat) : Int))))
          obtain ⟨m, hm⟩ : ∃ m : Nat, 37 + k = m := ⟨_, rfl⟩
          have HM := hide hm
          rw [hm] at e37 HB1 HK1
          clear hm
          go_upto_region 14 with fail
          clear ck fk HBK HKK
          generalize wr.setCell _ _ = W4 at *
          have HLS := hide (for_set_range HB1.out)
          have HSZ := hide (set_size (hsK k))
          have hm53 : m < 256 := by have := HM.out; omega
          have hb := hsK_ok k (by omega) (m / 8) (by have := HM.out; omega)
          have HWT := hide (with_ok (hsK k) m (m / 8) (m % 8) hm53 (by omega) (by omega) hb)
          clear hb
          go_wp2_with ((with_reducible refine wpList_load_mid rfl 126 (.tmp 36) rfl q 16 rfl (hsL (hsK k)) _ HLS.out Tryz.underlying126 rfl HSZ.out ?_))
          refine (HWT.out _).mono ?_
          rintro e w5 ⟨rfl, hx5⟩
          have HB5 := hide (HB1.out.ext hx5)
          have HK5 := hide (HK1.out.trans (KeepL.of hx5 _ _ _ _))
          have HE5 := hide (show updN (hsK k) (m / 8) (bits BinOp.or IntKind.u8 (hsK k (m / 8)) ((2 : Int) ^ (m % 8) % 256)) = hsK (k + 1) by rw [← HM.out]; rfl)
          rw [HE5.out]
          have HZ5 := hide (set_size (hsK (k + 1)))
          have HT5 := hide (show w5.there q 16 (hsL (hsK (k + 1))).toArray.size by rw [show (hsL (hsK (k + 1))).toArray.size = 32 from hsL_len _]; exact HB5.out.there_ 16 32 (by rw [List.size_toArray, forL_len]; omega))
          have HO5 := hide (hsL_one (hsK (k + 1)))
          clear hx5 HWT HLS HSZ HB1 HK1 HE5
          go_wp2_with ((with_reducible refine wpList_store_mid rfl 126 (.tmp 42) (.tmp 40) rfl q 16 (hsL (hsK (k + 1))).toArray rfl ?_ ?_ ?_ HO5.out ?_); (exact rfl); (exact HT5.out); (rw [List.size_toArray]; exact HZ5.out))
          have HB6 := hide (HB5.out.setCells (hsL (hsK (k + 1))) 16)
          rw [forL_hs] at HB6
          have HK6 := hide (HK5.out.trans (KeepL.row HB5.out (.inl (by simp)) (Nat.le_refl _) (setCells_grown q (hsL (hsK (k + 1))) w5 16)))
          go_roundw
          case rel => exact ⟨k + 1, by first | rfl | go_num, by omega, HB6.out, HK6.out⟩
          case measure => simp [intOf]; omega
        · have d16 : decide ((k : Int) < 16) = false := decide_eq_false (by omega)
          have hk16 : k = 16 := by omega
          have hfb := HBK.out
          rw [hk16] at hfb
          have HFB := hide hfb
          have HLF := hide hfb.all
          have HFS := hide (for_size (ndK 16) (hsK 16))
          have HDW := hide (HDF.out.keep HKK.out (by decide) (by decide) (by decide))
          have HKW := hide (HKF.out.newer HKK.out HQ2.out)
          clear hfb HBK HKK hk16 hk hl2 HKF HDF
          go_wp2_with ((with_reducible refine wpList_load_mid rfl 130 (.tmp 5) rfl q 0 rfl (forL (ndK 16) (hsK 16)) _ HLF.out Tryz.underlying130 rfl HFS.out ?_))
          refine (snappack_ok (nd := ndK 16) (hs := hsK 16) (by decide) (fun i hi => (boot_ok.nds i hi).2) boot_ok.set _).mono ?_
          rintro e w6 ⟨⟨A6, c6, rfl, ho6⟩, hx6⟩
          obtain ⟨g6, rfl, -, -, hc6, -⟩ := own_addr ho6 (by omega)
          have HR6 := hide (BAt.of_own ho6)
          have HC6 := hide hc6
          have HD6 := hide (HDW.out.ext hx6)
          have HK6 := hide (HKW.out.trans (KeepL.of hx6 _ _ _ _))
          have HG6 := hide (show rn < g6 by
            have h1 := HDW.out.rnlt
            have h2 := (ho6.lt g6 rfl).1
            omega)
          clear ho6 hx6 hc6 HDW HKW HFB HLF HFS
          go_wp2_with fail
          refine (packr_ok _).mono ?_
          rintro e w7 ⟨g7, rfl, hg7, hb7, hx7⟩
          have HB7 := hide hb7
          have HR7 := hide (HR6.out.ext hx7)
          have HD7 := hide (HD6.out.ext hx7)
          have HK7 := hide (HK6.out.trans (KeepL.of hx7 _ _ _ _))
          have HG7 := hide (show rn < g7 by have := HD6.out.rnlt; omega)
          clear hg7 hb7 hx7 HR6 HD6 HK6
          obtain ⟨n0, hn0⟩ : ∃ n0 : Nat, n0 = n := ⟨n, rfl⟩
          go_wp2_with fail
          go_loopw [60] (F3 b hd rs rn n w7 · ·) (fun v _ => 3 - (intOf v).toNat)
          case atStart => exact ⟨0, wv1, rfl, by omega, HD7.out, KeepL.refl _ _ _ _ _⟩
          case round =>
            clear HD7
            obtain ⟨k, wv8, rfl, hk, hd8, hk8⟩ := hrel
            have HD8 := hide hd8
            have HK8 := hide hk8
            clear hd8 hk8
            by_cases hl3 : k < 3
            · have hl3' : (k : Int) < 3 := by omega
              obtain ⟨p, hp⟩ : ∃ p : Nat, p = 64 * k := ⟨_, rfl⟩
              obtain ⟨r, hr⟩ : ∃ r : Nat, r = 64 * k + 64 := ⟨_, rfl⟩
              have hsl := third_slice g6 c6 k p r hl3 hp hr HC6.out wr
              have hw1 : IntKind.i64.wrap (64 * (k : Int)) = (p : Int) := by
                rw [show (64 * (k : Int)) = (p : Int) by omega]
                exact i64_wr _ (by omega)
              have hw2 : IntKind.i64.wrap (64 * ((k : Int) + 1)) = (r : Int) := by
                rw [show (64 * ((k : Int) + 1)) = (r : Int) by omega]
                exact i64_wr _ (by omega)
              have hr8 := HR7.out.keep HK8.out (by decide) (fun ad e => by injection e with e; subst e; have := HG6.out; simp; omega)
              have hct : BAt wr (some ⟨g6, p, none⟩) 64 (pieceF k) := by
                obtain ⟨g', o', e, hb'⟩ := hr8.cut (o := 64 * k) (k := 64) (by omega) (by omega)
                injection e with e
                injection e with e1 e2
                subst e1 e2
                rw [Nat.zero_add, ← hp] at hb'
                exact (by rw [hp] at hb' ⊢; exact hb')
              have HCT := hide hct
              have HW := hide (diskwrite_ok HD8.out (Nat.le_trans HBW.out (Nat.le_trans HX1.out.size (Nat.le_trans HK7.out.size HK8.out.size))) (by have := HN.out; omega) (1 + k) (by omega) (some ⟨g6, p, none⟩) (c6 - p) (pieceF k) HCT.out (fun ad e => by injection e with e; subst e; have := HG6.out; dsimp only; omega))
              rw [show ((1 + k : Nat) : Int) = 1 + (k : Int) by omega] at HW
              clear hr8 hct hp hr
              go_wp2_with fail
              refine HW.out.mono ?_
              rintro e w9 ⟨rfl, ⟨wv9, hd9⟩, hk9⟩
              have HD9 := hide hd9
              have HK9 := hide hk9
              clear hd9 hk9 HW
              go_wp2_with fail
              go_roundw
              case rel => exact ⟨k + 1, wv9, by first | rfl | go_num, by omega, HD9.out, HK8.out.trans HK9.out⟩
              case measure => simp [intOf]; omega
            · obtain rfl : k = 3 := by omega
              have HBR := hide (HK8.out.blk HB7.out (by decide) (by have := HG7.out; simp; omega))
              obtain ⟨R, G, hap, hbr⟩ := root_zeros g7 wr HBR.out
              have hxr : Ext wr (wr.drew.alloc (.cells R 5)) := (Ext.refl wr).drew.alloc _
              have HR10 := hide hbr
              have HD10 := hide (HD8.out.ext hxr)
              have HK10 := hide (HK8.out.trans (KeepL.of hxr _ _ _ _))
              have HG10 := hide (show rn < wr.heap.size from HD8.out.rnlt)
              clear hbr hxr HD8 HK8 HBR
              go_wp2_with (at_builtin; refine wpList_append_eqN _ rfl _ _ 29 3 rfl _ _ rfl rfl (hap _) ?_)
              change Calls _ _ _ (wr.drew.alloc (.cells R 5)) _
              generalize wr.drew.alloc _ = W10 at *
              generalize wr.heap.size = g10 at *
              have HW := hide (diskwrite_ok HD10.out (Nat.le_trans HBW.out (Nat.le_trans HX1.out.size (Nat.le_trans HK7.out.size HK10.out.size))) (by have := HN.out; omega) 37 (by omega) (some ⟨g10, 0, none⟩) G (rootB ++ zB 32) HR10.out (fun ad e => by injection e with e; subst e; have := HG10.out; dsimp only; omega))
              rw [show ((37 : Nat) : Int) = 37 from rfl] at HW
              refine HW.out.mono ?_
              rintro e w11 ⟨rfl, ⟨wv11, hd11⟩, hk11⟩
              have HD11 := hide hd11
              have HK11 := hide (HK10.out.trans hk11)
              have HSZ := hide (disksize_ok hd11)
              clear hd11 hk11 HW HD10 HK10 HR10 hap
              go_wp2_with fail
              refine HSZ.out.mono ?_
              rintro e w' ⟨rfl, hw'⟩
              subst hw'
              go_wp2_with fail
              refine (mark_ok _).mono ?_
              rintro e w12 ⟨g12, rfl, hg12, hb12, hx12⟩
              have HD12 := hide (HD11.out.ext hx12)
              have HK12 := hide (HK11.out.trans (KeepL.of hx12 _ _ _ _))
              have HG12 := hide (show rn < g12 by have := HD11.out.rnlt; omega)
              have HR12 := hide (show BAt w12 (some ⟨g12, 0, none⟩) 64 markB from BAt.of_blk hb12)
              clear hg12 hb12 hx12 HD11 HK11 HSZ
              have HW := hide (diskwrite_ok HD12.out (Nat.le_trans HBW.out (Nat.le_trans HX1.out.size (Nat.le_trans HK7.out.size HK12.out.size))) (by have := HN.out; omega) 0 (by omega) (some ⟨g12, 0, none⟩) 64 markB HR12.out (fun ad e => by injection e with e; subst e; have := HG12.out; dsimp only; omega))
              rw [show ((0 : Nat) : Int) = 0 from rfl] at HW
              go_wp2_with fail
              refine HW.out.mono ?_
              rintro e w13 ⟨rfl, ⟨wv13, hd13⟩, hk13⟩
              have HFL := hide (diskflush_ok hd13)
              have HK13 := hide (HK12.out.trans hk13)
              clear hd13 hk13 HW HD12 HK12 HR12
              go_wp2_with fail
              refine HFL.out.mono ?_
              rintro e w14 ⟨rfl, hd14, hk14⟩
              have HD14 := hide hd14
              have HK14 := hide ((((KeepL.of HX1.out b dTs [rn] []).trans HK7.out).trans HK13.out).wide (L := dTs) (G := [rn, rs]) (M := []) (Nat.le_refl _) (by simp) (by simp) (by simp) |>.trans (hk14.wide (Nat.le_refl _) (by simp) (by simp) (by simp)))
              clear hd14 hk14 HFL HK13
              go_wp2_with fail
              go_ret
              exact ⟨rfl, HD14.out, HK14.out⟩
end
end Go.Proofs.YthmojneobkaolaaGreatDoor

namespace Go.Proofs.YthmojneobkaolaaGreatDoor
open Go.RowKit
set_option linter.unusedVariables false

set_option maxHeartbeats 4000000 in
set_option maxRecDepth 100000 in
theorem make_ok (w : World) : Calls Tryz.prog 9 #[.int .i64 256, .slice none 0 0] w fun e w' => ∃ hd rs rn, e = .returned (.tuple #[.pointer (some ⟨hd, 0, none⟩), .int .i64 0]) ∧ DiskAt w.heap.size w' hd rs rn (.slice none 0 0) 0 bootS ∧ Ext w w' := by
  go_enter Tryz.func9, Tryz.ntmps9
  go_wp2_with fail
  refine (disknew_ok _).mono ?_
  rintro e w1 ⟨hd, rs, rn, rfl, hd1, hx1⟩
  have HD1 := hide hd1
  have HX1 := hide hx1
  clear hd1 hx1
  go_wp2_with fail
  refine (format_ok HD1.out HX1.out.size).mono ?_
  rintro e w2 ⟨rfl, hd2, hk2⟩
  have HD2 := hide hd2
  have HX2 := hide (hk2.ext HX1.out (Nat.le_refl _))
  clear hd2 hk2 HD1 HX1
  go_wp2_with fail
  refine (mount_ok HD2.out boot_ok).mono ?_
  rintro e w3 ⟨⟨hf, hl, tm, rfl, hf3⟩, hx3⟩
  have HF3 := hide hf3
  have HD3 := hide (HD2.out.ext hx3)
  have HX3 := hide (HX2.out.trans hx3)
  have HB3 := hide HX2.out.size
  clear hf3 hx3 HD2 HX2
  go_wp2_with fail
  go_loopw [40] (fun v wr => v = .int .i64 0 ∧ wr = w3) (fun _ _ => 0)
  case atStart => exact ⟨rfl, rfl⟩
  case round =>
    obtain ⟨rfl, hw⟩ := hrel
    subst hw
    go_wp2_with fail
    refine (sync_ok HF3.out HD3.out HB3.out).mono ?_
    rintro e w4 ⟨rfl, hd4, hk4⟩
    have HD4 := hide hd4
    have HX4 := hide (hk4.ext HX3.out (Nat.le_refl _))
    clear hd4 hk4
    go_wp2_with fail
    go_ret2
    exact ⟨hd, rs, rn, rfl, HD4.out, HX4.out⟩
end Go.Proofs.YthmojneobkaolaaGreatDoor
