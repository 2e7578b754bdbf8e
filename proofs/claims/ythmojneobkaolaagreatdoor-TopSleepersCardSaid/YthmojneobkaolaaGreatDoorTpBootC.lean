/- inode.Unpack at the bytes of the root, and at zeros. -/
import Derived.Test.YthmojneobkaolaaGreatDoorRows
import Derived.Test.YthmojneobkaolaaGreatDoorSecs
import Derived.Test.YthmojneobkaolaaGreatDoorKeepL
import Derived.Test.YthmojneobkaolaaGreatDoorBytesK
import Derived.Test.YthmojneobkaolaaGreatDoorFlat
import Derived.WalkKit
import Derived.WalkSpells
import Derived.ProofKit
import Derived.Deep.QuietTactic
import Derived.BigQuiet
import Derived.Deep.RegionHeld3
import Derived.Deep.DeepCutAuto
import Derived.Test.YthmojneobkaolaaGreatDoorDrawH
import Derived.Test.YthmojneobkaolaaGreatDoorPop
import Derived.Test.YthmojneobkaolaaGreatDoorSetC
import Derived.Test.YthmojneobkaolaaGreatDoorRetC
import Derived.Test.YthmojneobkaolaaGreatDoorArr
import Derived.Test.YthmojneobkaolaaGreatDoorCopyN
namespace Go.Proofs.YthmojneobkaolaaGreatDoor
open Go.RowKit
set_option linter.unusedVariables false

structure DiskAt (b : Nat) (w : World) (hd rs rn : Nat) (wv : Value) (nw : Nat) (S : Nat → Bt) : Prop where
  box : Blk w hd 123 #[.slice (some ⟨rs, 0, none⟩) 16384 16384, .slice (some ⟨rn, 0, none⟩) 16384 16384, wv, .int .i64 (-1)]
  safe : ∃ T : Bt, T.length = 16384 ∧ Blk w rs 5 (bytesV T).toArray
  now : RowD w rn S
  ok : SecOk S
  wait : ∃ xs, w.ownsRow b 229 2 wv nw xs
  ne : rs ≠ rn
  ge : b ≤ hd ∧ b ≤ rs ∧ b ≤ rn
theorem DiskAt.ext {b : Nat} {w w' : World} {hd rs rn : Nat} {wv : Value} {nw : Nat} {S : Nat → Bt} (h : DiskAt b w hd rs rn wv nw S) (hx : Ext w w') : DiskAt b w' hd rs rn wv nw S := by
  obtain ⟨T, hT, hs⟩ := h.safe
  obtain ⟨xs, ho⟩ := h.wait
  exact ⟨h.box.ext hx, ⟨T, hT, hs.ext hx⟩, h.now.ext hx, h.ok, ⟨xs, hx.own ho⟩, h.ne, h.ge⟩
section
variable {b : Nat} {w : World} {hd rs rn : Nat} {wv : Value} {nw : Nat} {S : Nat → Bt}
theorem disksize_ok (h : DiskAt b w hd rs rn wv nw S) : Calls Tryz.prog 52 #[.pointer (some ⟨hd, 0, none⟩)] w fun e w' => e = .returned (.int .i64 256) ∧ w = w' := by
  have c1 : w.cell? ⟨hd, 1, none⟩ = some (.slice (some ⟨rn, 0, none⟩) 16384 16384) := h.box.cell 1
  clear h
  go_enter Tryz.func52, Tryz.ntmps52
  go_wp2_with fail
  go_ret
  exact ⟨rfl, rfl⟩
theorem diskgoes_ok (h : DiskAt b w hd rs rn wv nw S) : Calls Tryz.prog 119 #[.pointer (some ⟨hd, 0, none⟩)] w fun e w' => e = .returned (.bool true) ∧ w = w' := by
  have c3 : w.cell? ⟨hd, 3, none⟩ = some (.int .i64 (-1)) := h.box.cell 3
  clear h
  go_enter Tryz.func119, Tryz.ntmps119
  go_wp2_with fail
  go_ret
  exact ⟨rfl, rfl⟩
/-- 'd.now[64*n : 64*(n+1)]'. -/
theorem sec_slice (rn n : Nat) (hn : n < 256) (W : World) : (Instr.slice 29 (.slice (some ⟨rn, 0, none⟩) 16384 16384) (some (.int .i64 ((n : Int) * 64))) (some (.int .i64 (((n : Int) + 1) * 64))) none).run Tryz.prog W = .ok (.slice (some ⟨rn, 64 * n, none⟩) 64 (16384 - 64 * n)) W := by
  obtain ⟨i0, hi0, hz0, hz1, hz2⟩ := info_parts byte_info
  have he : Tryz.prog.elem 29 = 5 := by kernel_rfl
  rw [run_slice_lh W 29 (some ⟨rn, 0, none⟩) 16384 16384 (by kernel_rfl) .i64 .i64 ((n : Int) * 64) (((n : Int) + 1) * 64) (by omega) (by omega) (by omega), he]
  have e1 : ((n : Int) * 64).toNat = 64 * n := by omega
  have e2 : (((n : Int) + 1) * 64).toNat = 64 * n + 64 := by omega
  have hne : ¬ 16384 = 64 * n := by omega
  simp [sizeOf, typeInfo, hi0, hz1, sliced, Result.andThen, e1, e2, hne, add_lit]
theorem sec_tail (rn n : Nat) (hn : n < 256) (W : World) : (Instr.slice 29 (.slice (some ⟨rn, 0, none⟩) 16384 16384) (some (.int .i64 ((n : Int) * 64))) none none).run Tryz.prog W = .ok (.slice (some ⟨rn, 64 * n, none⟩) (16384 - 64 * n) (16384 - 64 * n)) W := by
  obtain ⟨i0, hi0, hz0, hz1, hz2⟩ := info_parts byte_info
  have he : Tryz.prog.elem 29 = 5 := by kernel_rfl
  rw [run_slice_l W 29 (some ⟨rn, 0, none⟩) 16384 16384 (by kernel_rfl) .i64 ((n : Int) * 64) (by omega) (by omega), he]
  have e1 : ((n : Int) * 64).toNat = 64 * n := by omega
  have hne : ¬ 16384 = 64 * n := by omega
  simp [sizeOf, typeInfo, hi0, hz1, sliced, Result.andThen, e1, hne, add_lit]
set_option maxHeartbeats 4000000 in
set_option maxRecDepth 100000 in
theorem diskread_ok (h : DiskAt b w hd rs rn wv nw S) (n : Nat) (hn : n < 256) : Calls Tryz.prog 59 #[.pointer (some ⟨hd, 0, none⟩), .int .i64 (n : Int)] w fun e w' => ∃ A c, e = .returned (.tuple #[.slice A 64 c, .int .i64 0]) ∧ w'.ownsRow w.heap.size 5 1 (.slice A 64 c) 64 (bytesV (S n)) ∧ Ext w w' := by
  have HSZ := hide (disksize_ok h)
  have c1 : w.cell? ⟨hd, 1, none⟩ = some (.slice (some ⟨rn, 0, none⟩) 16384 16384) := h.box.cell 1
  have hsl := sec_slice rn n hn
  have HCL := hide (bclone_any (some ⟨rn, 64 * n, none⟩) 64 (16384 - 64 * n) w.heap.size (bytesV (S n)) w (h.now.sec h.ok hn) (bytesV_one _) (Nat.le_refl _) (by omega) (fun e => by cases e))
  have hlt : (n : Int) < 256 := by omega
  clear h
  go_enter Tryz.func59, Tryz.ntmps59
  go_wp2_with fail
  refine HSZ.out.mono ?_
  rintro e w' ⟨rfl, rfl⟩
  go_wp2_with fail
  refine HCL.out.mono ?_
  rintro e w1 ⟨A1, c1, rfl, ho1, hx1⟩
  go_wp2_with fail
  go_ret2
  exact ⟨A1, c1, rfl, ho1, hx1⟩
end
end Go.Proofs.YthmojneobkaolaaGreatDoor

namespace Go.Proofs.YthmojneobkaolaaGreatDoor
open Go.RowKit
set_option linter.unusedVariables false

/-- A slice over a block of bytes that reads as bs. -/
def BAt (w : World) (A : Option Addr) (n : Nat) (bs : Bt) : Prop := bs.length = n ∧ (0 < n → ∃ g off cs, A = some ⟨g, off, none⟩ ∧ Blk w g 5 cs ∧ ∀ (j : Nat) (u : Value), (bytesV bs)[j]? = some u → cs[off + j]? = some u)
section
variable {w w' : World} {A : Option Addr} {n : Nat} {bs : Bt}
theorem BAt.reads (h : BAt w A n bs) : Reads w w.heap.size 1 A n (bytesV bs) := ⟨by rw [bytesV_length, h.1]; omega, fun hn => by
  obtain ⟨g, off, cs, rfl, hb, hc⟩ := h.2 hn
  exact ⟨_, rfl, hb.lt, fun j u hu => by rw [add_lit, hb.cell]; exact hc j u hu⟩⟩
theorem BAt.ext (h : BAt w A n bs) (hx : Ext w w') : BAt w' A n bs := ⟨h.1, fun hn => by
  obtain ⟨g, off, cs, e, hb, hc⟩ := h.2 hn
  exact ⟨g, off, cs, e, hb.ext hx, hc⟩⟩
theorem BAt.keep {b : Nat} {L : List TypeId} {G M : List Nat} (h : BAt w A n bs) (hk : KeepL b L G M w w') (hL : 5 ∉ L) (hG : ∀ ad, A = some ad → ad.block ∉ G) : BAt w' A n bs := ⟨h.1, fun hn => by
  obtain ⟨g, off, cs, e, hb, hc⟩ := h.2 hn
  exact ⟨g, off, cs, e, hk.blk hb hL (hG _ e), hc⟩⟩
theorem BAt.of_own {base c : Nat} (h : w.ownsRow base 5 1 (.slice A n c) n (bytesV bs)) : BAt w A n bs := by
  have hl := h.1
  rw [bytesV_length] at hl
  refine ⟨by omega, fun hn => ?_⟩
  obtain ⟨g, cur, rfl, hbg, hh, hnc, hm, hsz, hx⟩ := own_row h hn
  refine ⟨g, 0, cur, rfl, hh, fun j u hu => ?_⟩
  have hj := (List.getElem?_eq_some_iff.1 hu).1
  rw [Nat.zero_add, ← hu, ← hx, List.getElem?_take, if_pos (by rw [← hx] at hj; rw [List.length_take] at hj; omega)]
  simp
theorem BAt.cut (h : BAt w A n bs) {o k : Nat} (hk : o + k ≤ n) (hk0 : 0 < k) : ∃ g off, A = some ⟨g, off, none⟩ ∧ BAt w (some ⟨g, off + o, none⟩) k ((bs.drop o).take k) := by
  obtain ⟨g, off, cs, e, hb, hc⟩ := h.2 (by omega)
  refine ⟨g, off, e, by rw [List.length_take, List.length_drop, h.1]; omega, fun _ => ⟨g, off + o, cs, rfl, hb, fun j u hu => ?_⟩⟩
  rw [← bytesV_take, ← bytesV_drop] at hu
  rw [List.getElem?_take] at hu
  split at hu
  · rw [List.getElem?_drop] at hu
    rw [Nat.add_assoc]
    exact hc (o + j) u hu
  · cases hu
end
theorem Blk.two {w : World} {g : Nat} {t : TypeId} {a c : Value} (h : Blk w g t #[a, c]) : Reads w w.heap.size 2 (some ⟨g, 0, none⟩) 1 [a, c] := by
  refine ⟨rfl, fun _ => ⟨_, rfl, h.lt, fun j u hu => ?_⟩⟩
  rw [add_lit, Nat.zero_add, h.cell]
  exact (List.getElem?_toArray).trans hu
theorem dw_info : (Tryz.prog.info? 229).map (fun i => (i.zero, i.size, i.bytes)) = some (some (.agg #[.int .i64 0, .slice none 0 0]), 2, 32) := by kernel_rfl
section
variable {b : Nat} {w w' : World} {hd rs rn : Nat} {wv : Value} {nw : Nat} {S : Nat → Bt}
theorem DiskAt.waited (h : DiskAt b w hd rs rn wv nw S) (hk : KeepL b [229] [] [] w w') {A : Option Addr} {m c : Nat} {xs : List Value} (hr : w'.ownsRow b 229 2 (.slice A m c) m xs) :
    DiskAt b (w'.setCell ⟨hd, 2, none⟩ (.slice A m c)) hd rs rn (.slice A m c) m S ∧ KeepL b [123, 229] [] [] w (w'.setCell ⟨hd, 2, none⟩ (.slice A m c)) := by
  have hb := hk.blk h.box (by decide) (by simp)
  obtain ⟨T, hT, hs⟩ := h.safe
  obtain ⟨N, L, hN, hL, hn⟩ := h.now
  have hk2 : KeepL b [123] [] [] w' (w'.setCell ⟨hd, 2, none⟩ (.slice A m c)) := KeepL.set hb (.inl (by simp)) h.ge.1 _ _
  have hs' := hk2.blk (hk.blk hs (by decide) (by simp)) (by decide) (by simp)
  have hn' := hk2.blk (hk.blk hn (by decide) (by simp)) (by decide) (by simp)
  exact ⟨⟨hb.set_ 2 _, ⟨T, hT, hs'⟩, ⟨N, L, hN, hL, hn'⟩, h.ok, ⟨xs, hk2.own hr (by decide) (by simp)⟩, h.ne, h.ge⟩, (hk.wide (Nat.le_refl _) (by simp) (by simp) (by simp)).trans (hk2.wide (Nat.le_refl _) (by simp) (by simp) (by simp))⟩
theorem DiskAt.sector (h : DiskAt b w hd rs rn wv nw S) (n : Nat) (hn : n < 256) (d : Bt) (hd64 : d.length = 64) : ∃ L : Bt, L.length = 16384 ∧ Blk w rn 5 (bytesV L).toArray ∧
    DiskAt b (w.setRow rn (spl (bytesV L) (64 * n) (bytesV d)).toArray) hd rs rn wv nw (updN S n d) ∧ KeepL b [] [rn] [] w (w.setRow rn (spl (bytesV L) (64 * n) (bytesV d)).toArray) := by
  obtain ⟨L, hl, -, -, hb, hput, -⟩ := h.now.whole h.ok
  have hb2 := setRow_blk hb (spl (bytesV L) (64 * n) (bytesV d)).toArray
  have hg : w.grownBy (w.setRow rn (spl (bytesV L) (64 * n) (bytesV d)).toArray) (some rn) := setRow_grown (World.grownBy.refl w _) _
  have hk : KeepL b [] [rn] [] w (w.setRow rn (spl (bytesV L) (64 * n) (bytesV d)).toArray) := KeepL.row hb (.inr (by simp)) h.ge.2.2 hg
  obtain ⟨T, hT, hs⟩ := h.safe
  obtain ⟨xs, ho⟩ := h.wait
  have hne1 : hd ≠ rn := fun e => by
    have h1 := h.box
    subst e
    exact Blk.ne_ h1 hb (by decide) rfl
  refine ⟨L, hl, hb, ⟨hk.blk h.box (by simp) (by simpa using hne1), ⟨T, hT, hk.blk hs (by simp) (by simpa using h.ne)⟩, hput n d hn hd64 _ hb2, updS_ok h.ok n hd64, ⟨xs, hk.own ho (by simp) (fun k hk' => ?_)⟩, h.ne, h.ge⟩, hk⟩
  have := own_blk_ne ho hb (by decide)
  intro e
  rw [List.mem_singleton.1 e] at hk'
  exact this hk'
set_option maxHeartbeats 8000000 in
set_option maxRecDepth 100000 in
theorem diskwrite_ok (h : DiskAt b w hd rs rn wv nw S) (hbw : b ≤ w.heap.size) (hnw : nw ≤ 1000000) (n : Nat) (hn : n < 256) (A : Option Addr) (c : Nat) (d : Bt) (hbd : BAt w A 64 d) (hA : ∀ ad, A = some ad → ad.block ≠ rn) :
    Calls Tryz.prog 53 #[.pointer (some ⟨hd, 0, none⟩), .int .i64 (n : Int), .slice A 64 c] w fun e w' => e = .returned (.int .i64 0) ∧ (∃ wv', DiskAt b w' hd rs rn wv' (nw + 1) (updN S n d)) ∧ KeepL b [123, 229] [rn] [] w w' := by
  obtain ⟨i0, hi0, hz0, hz1, hz2⟩ := info_parts dw_info
  obtain ⟨xs, hwt⟩ := h.wait
  have HWT := hide hwt
  have HBX := hide h.box
  have HSZ := hide (disksize_ok h)
  have HGO := hide (diskgoes_ok h)
  have HD := hide h
  have HBD := hide hbd
  have HCL := hide (fun (w1 : World) (hx : Ext w w1) => bclone_any A 64 c w1.heap.size (bytesV d) w1 (hbd.ext hx).reads (bytesV_one _) (Nat.le_refl _) (by omega) (fun e => by obtain ⟨g, off, cs, e', -⟩ := hbd.2 (by omega); rw [e] at e'; cases e'))
  have c2 : w.drew.cell? ⟨hd, 2, none⟩ = some wv := h.box.cell 2
  have hn1 : (0 : Int) ≤ (n : Int) := by omega
  have hn2 : (n : Int) < 256 := by omega
  clear h hwt hbd
  go_enter Tryz.func53, Tryz.ntmps53
  go_wp2_with fail
  refine HSZ.out.mono ?_
  rintro e w' ⟨rfl, hw'⟩
  subst hw'
  go_wp2_with fail
  refine HGO.out.mono ?_
  rintro e w' ⟨rfl, hw'⟩
  subst hw'
  clear HSZ HGO
  go_upto_region 4 with fail
  refine wp_region_pop_take (S := fun (w' : World) => w'.cell? ⟨hd, 2, none⟩ = some wv) 13 rfl rfl (by kernel_rfl) (by kernel_rfl) (by exact c2) (fun hS0 => ?_)
  simp only [List.take_succ_cons, List.take_zero]
  have HX0 := hide ((Ext.refl w).drew)
  generalize w.drew = wd at HX0 hS0 ⊢
  refine takeH_op (i := 0) (d := some 22) (v := ?v1001) hS0 rfl (by kernel_rfl) (by kernel_rfl) (by kernel_rfl) (fun _ _ _ h => h) (fun oi ho => ?hy1001) ?rest1001
  case hy1001 => (simp only [List.getElem?_toArray, List.getElem?_cons_zero, Option.some.injEq] at ho; subst ho; refine Or.inl ⟨by rfl, fun w' _ => ?_⟩; go_simp; try (with_reducible rfl))
  simp only [Act.put, List.setIfInBounds_toArray, List.set_cons_zero, List.set_cons_succ]
  refine takeH_op (i := 1) (d := some 23) (v := ?v1002) hS0 rfl (by kernel_rfl) (by kernel_rfl) (by kernel_rfl) (fun _ _ _ h => h) (fun oi ho => ?hy1002) ?rest1002
  case hy1002 => (simp only [List.getElem?_toArray, List.getElem?_cons_succ, List.getElem?_cons_zero, Option.some.injEq] at ho; subst ho; refine Or.inl ⟨by rfl, fun w' _ => ?_⟩; go_simp; try (with_reducible rfl))
  simp only [Act.put, List.setIfInBounds_toArray, List.set_cons_zero, List.set_cons_succ]
  refine takeH_op (i := 2) (d := some 24) (v := ?v1003) hS0 rfl (by kernel_rfl) (by kernel_rfl) (by kernel_rfl) (fun _ _ _ h => h) (fun oi ho => ?hy1003) ?rest1003
  case hy1003 => (simp only [List.getElem?_toArray, List.getElem?_cons_succ, List.getElem?_cons_zero, Option.some.injEq] at ho; subst ho; refine Or.inl ⟨by rfl, fun w' _ => ?_⟩; go_simp; try (with_reducible rfl))
  simp only [Act.put, List.setIfInBounds_toArray, List.set_cons_zero, List.set_cons_succ]
  refine takeH_op (i := 3) (d := some 25) (v := ?v1004) hS0 rfl (by kernel_rfl) (by kernel_rfl) (by kernel_rfl) (fun _ _ _ h => h) (fun oi ho => ?hy1004) ?rest1004
  case hy1004 => (simp only [List.getElem?_toArray, List.getElem?_cons_succ, List.getElem?_cons_zero, Option.some.injEq] at ho; subst ho; refine Or.inl ⟨by rfl, fun w' _ => ?_⟩; go_simp; try (with_reducible rfl))
  simp only [Act.put, List.setIfInBounds_toArray, List.set_cons_zero, List.set_cons_succ]
  refine takeH_op (i := 4) (d := some 26) (v := ?v1005) hS0 rfl (by kernel_rfl) (by kernel_rfl) (by kernel_rfl) (fun _ _ _ h => h) (fun oi ho => ?hy1005) ?rest1005
  case hy1005 => (simp only [List.getElem?_toArray, List.getElem?_cons_succ, List.getElem?_cons_zero, Option.some.injEq] at ho; subst ho; refine Or.inl ⟨by rfl, fun w' hS' => ?_⟩; skip; go_simp; try (with_reducible rfl))
  simp only [Act.put, List.setIfInBounds_toArray, List.set_cons_zero, List.set_cons_succ]
  refine takeH_op (i := 5) (d := some 27) (v := ?v1006) hS0 rfl (by kernel_rfl) (by kernel_rfl) (by kernel_rfl) (fun _ _ _ h => h) (fun oi ho => ?hy1006) ?rest1006
  case hy1006 => (simp only [List.getElem?_toArray, List.getElem?_cons_succ, List.getElem?_cons_zero, Option.some.injEq] at ho; subst ho; refine Or.inl ⟨by rfl, fun w' _ => ?_⟩; go_simp; try (with_reducible rfl))
  simp only [Act.put, List.setIfInBounds_toArray, List.set_cons_zero, List.set_cons_succ]
  refine takeH_op (i := 6) (d := some 28) (v := ?v1007) hS0 rfl (by kernel_rfl) (by kernel_rfl) (by kernel_rfl) (fun _ _ _ h => h) (fun oi ho => ?hy1007) ?rest1007
  case hy1007 => (simp only [List.getElem?_toArray, List.getElem?_cons_succ, List.getElem?_cons_zero, Option.some.injEq] at ho; subst ho; refine Or.inl ⟨by rfl, fun w' _ => ?_⟩; go_simp; try (with_reducible rfl))
  simp only [Act.put, List.setIfInBounds_toArray, List.set_cons_zero, List.set_cons_succ]
  refine readyH (rs := [7]) (by kernel_rfl) (by simp) ?_
  refine consH_op (by decide) (fun o ho K hK => ?_) ?_
  simp only [List.getElem?_toArray, List.getElem?_cons_succ, List.getElem?_cons_zero, Option.some.injEq] at ho
  subst ho
  (go_simp; refine (HCL.out _ HX0.out).mono ?_; rintro e w5 ⟨A5, c5, rfl, ho5, hx5⟩; dsimp only)
  have hS1008 : (fun (w' : World) => w'.cell? ⟨hd, 2, none⟩ = some wv) (w5) := by exact hx5.cell hS0
  refine hK _ _ hS1008 ?_
  clear hK K
  try (simp only [Act.put, List.setIfInBounds_toArray, List.set_cons_zero, List.set_cons_succ])
  have HX5 := hide (HX0.out.trans hx5)
  clear ho5 hx5
  refine takeH_op (i := 8) (d := some 30) (v := ?v1009) hS1008 rfl (by kernel_rfl) (by kernel_rfl) (by kernel_rfl) (fun _ _ _ h => h) (fun oi ho => ?hy1009) ?rest1009
  case hy1009 => (simp only [List.getElem?_toArray, List.getElem?_cons_succ, List.getElem?_cons_zero, Option.some.injEq] at ho; subst ho; refine Or.inl ⟨by rfl, fun w' _ => ?_⟩; go_simp; try (with_reducible rfl))
  simp only [Act.put, List.setIfInBounds_toArray, List.set_cons_zero, List.set_cons_succ]
  refine readyH (rs := [9]) (by kernel_rfl) (by simp) ?_
  refine consH_op (by decide) (fun o ho K hK => ?_) ?_
  simp only [List.getElem?_toArray, List.getElem?_cons_succ, List.getElem?_cons_zero, Option.some.injEq] at ho
  subst ho
  go_simp
  have hS1010 : (fun (w' : World) => w'.cell? ⟨hd, 2, none⟩ = some wv) ((w5.alloc (.cells #[.int .i64 (n : Int), .slice A5 64 c5] 229))) := by exact ((Ext.refl w5).alloc _).cell (by assumption)
  refine hK _ _ hS1010 ?_
  clear hK K
  have HX9 := hide (HX5.out.alloc (.cells #[.int .i64 (n : Int), .slice A5 64 c5] 229))
  have HR9 := hide ((Blk.new w5 229 #[.int .i64 (n : Int), .slice A5 64 c5]).two)
  have HW9 := hide (HX9.out.own HWT.out)
  have HB9 := hide (HBX.out.ext HX9.out)
  have HBW := hide (Nat.le_trans hbw HX9.out.size)
  refine readyH (rs := [10]) (by kernel_rfl) (by simp) ?_
  refine consH_op (by decide) (fun o ho K hK => ?_) ?_
  simp only [List.getElem?_toArray, List.getElem?_cons_succ, List.getElem?_cons_zero, Option.some.injEq] at ho
  subst ho
  (refine step_append_any _ (by rfl) (.tmp 26) (.tmp 31) 121 (by rfl) b 229 i0 _ 2 32 Tryz.underlying121 hi0 hz0 hz1 hz2 (by rfl) (by omega) wv nw xs (by rfl) HW9.out _ _ 1 1 [.int .i64 (n : Int), .slice A5 64 c5] (by rfl) HR9.out (by intro u hu; simp only [List.mem_cons, List.not_mem_nil, or_false] at hu; rcases hu with rfl | rfl <;> rfl) (by simp only [maxLen]; omega) (by omega) HBW.out ?_; intro A7 c7 w7 ho7 hg7 ha7)
  have hS1011 : (fun (w' : World) => w'.cell? ⟨hd, 2, none⟩ = some wv) (w7) := by exact ((KeepL.grown HW9.out (by simp) (Nat.le_refl _) hg7 : KeepL b [229] [] [] _ w7).blk HB9.out (by decide) (by simp)).cell 2
  refine hK _ _ hS1011 ?_
  clear hK K
  try (simp only [Act.put, List.setIfInBounds_toArray, List.set_cons_zero, List.set_cons_succ])
  have HK7 := hide ((KeepL.of HX9.out b [229] [] []).trans (KeepL.grown HW9.out (by simp) (Nat.le_refl _) hg7))
  have HO7 := hide ho7
  clear ho7 hg7 ha7
  refine takeH_op (i := 11) (d := some 33) (v := ?v1012) hS1011 rfl (by kernel_rfl) (by kernel_rfl) (by kernel_rfl) (fun _ _ _ h => h) (fun oi ho => ?hy1012) ?rest1012
  case hy1012 => (simp only [List.getElem?_toArray, List.getElem?_cons_succ, List.getElem?_cons_zero, Option.some.injEq] at ho; subst ho; refine Or.inl ⟨by rfl, fun w' _ => ?_⟩; go_simp; try (with_reducible rfl))
  simp only [Act.put, List.setIfInBounds_toArray, List.set_cons_zero, List.set_cons_succ]
  refine takeH_op (i := 12) (d := some 34) (v := ?v1013) hS1011 rfl (by kernel_rfl) (by kernel_rfl) (by kernel_rfl) (fun _ _ _ h => h) (fun oi ho => ?hy1013) ?rest1013
  case hy1013 => (simp only [List.getElem?_toArray, List.getElem?_cons_succ, List.getElem?_cons_zero, Option.some.injEq] at ho; subst ho; refine Or.inl ⟨by rfl, fun w' _ => ?_⟩; go_simp; try (with_reducible rfl))
  simp only [Act.put, List.setIfInBounds_toArray, List.set_cons_zero, List.set_cons_succ]
  refine wpAnyH_done (by kernel_rfl) ?_ _
  refine pop_last rfl ?_
  rotate_left
  exact allH_nil
  exact allH_nil
  exact allH_nil
  have HD7 := hide (HD.out.waited HK7.out HO7.out)
  have c27 : w7.cell? ⟨hd, 2, none⟩ = some wv := by assumption
  have f27 : w7.frozen? ⟨hd, 2, none⟩ = false := (HK7.out.blk HBX.out (by decide) (by simp)).frozen 2
  have HBD7 := hide (HBD.out.keep HD7.out.2 (by decide) (by simp))
  clear HCL HWT HX0 HX5 HX9 HR9 HW9 HB9 HBW
  go_upto_region 5 with fail
  generalize w7.setCell _ _ = w8 at *
  clear c27 f27
  obtain ⟨gA, oA, csA, hAe, -, -⟩ := HBD7.out.2 (by omega)
  subst hAe
  obtain ⟨L, hL, hbl, hdk, hkk⟩ := HD7.out.1.sector n hn d HBD7.out.1
  have hsz1 : (Tryz.prog.info? 5).map (·.size) = some 1 := by kernel_rfl
  have hcp : ∀ ty, (Builtin.copy_ #[29, 29] ty #[.slice (some ⟨rn, 64 * n, none⟩) (16384 - 64 * n) (16384 - 64 * n), .slice (some ⟨gA, oA, none⟩) 64 c]).run Tryz.prog w8 = .ok (goInt (Nat.min 64 (16384 - 64 * n))) (w8.setRow rn (spl (bytesV L) (64 * n) (bytesV d)).toArray) := fun ty => by
    have hr := (HBD7.out.reads).2 (by omega)
    obtain ⟨ad, he, hlt, hcell⟩ := hr
    injection he with he
    subst he
    have := run_copy_rowN (P := Tryz.prog) w8 29 29 ty 5 1 rn (64 * n) (16384 - 64 * n) (16384 - 64 * n) ⟨gA, oA, none⟩ 64 c (bytesV L).toArray 5 (bytesV d) Tryz.underlying29 hsz1 hbl (by rw [bytesV_length, HBD7.out.1, Nat.mul_one]; exact (Nat.min_eq_left (by omega)).symm) hcell (by rw [List.size_toArray, bytesV_length, bytesV_length, HBD7.out.1, hL]; omega) (bytesV_one _)
    exact this
  have hst := sec_tail rn n hn w8
  have c1 : w8.cell? ⟨hd, 1, none⟩ = some (.slice (some ⟨rn, 0, none⟩) 16384 16384) := HD7.out.1.box.cell 1
  have HDK := hide hdk
  have HKK := hide ((HD7.out.2.wide (Nat.le_refl _) (by simp) (by simp) (by simp) : KeepL b [123, 229] [rn] [] w w8).trans (hkk.wide (Nat.le_refl _) (by simp) (by simp) (by simp)))
  clear hdk hkk hbl HD7 HK7 HO7 HBX HBD HBD7 HD
  go_wp2_with (at_builtin; refine wpList_copy_eqN _ rfl _ _ 29 29 rfl _ _ rfl rfl (hcp _) ?_)
  go_ret
  exact ⟨rfl, ⟨_, HDK.out⟩, HKK.out⟩
end
end Go.Proofs.YthmojneobkaolaaGreatDoor

namespace Go.Proofs.YthmojneobkaolaaGreatDoor
open Go.RowKit
set_option linter.unusedVariables false

def zero64 : Bt := List.replicate 64 0
def zeroB : Bt := List.replicate 16384 0
theorem flatS_zero (k : Nat) : flatS (fun _ => zero64) k = List.replicate (64 * k) 0 := by
  induction k with
  | zero => rfl
  | succ k ih => rw [flatS, ih, zero64, List.replicate_append_replicate, Nat.mul_succ]
theorem zero64_ok : SecOk (fun _ => zero64) := fun _ => by rw [zero64, List.length_replicate]
theorem made_bytes (n : Nat) : madeCells (Value.int .u8 0).cells n = (bytesV (List.replicate n 0)).toArray := by
  apply Array.ext
  · rw [size_madeCells, List.size_toArray, bytesV_length, List.length_replicate]
  · intro i h1 h2
    simp [madeCells, bytesV, Value.cells, Nat.mod_one]
theorem run_made (n : Nat) (hn : n ≤ 1000000) (W : World) : (Instr.makeSlice 29 (.int .i64 (n : Int)) (.int .i64 (n : Int))).run Tryz.prog W = .ok (.slice (some ⟨W.heap.size, 0, none⟩) n n) (W.alloc (.cells (bytesV (List.replicate n 0)).toArray 5)) := by
  obtain ⟨i0, hi0, hz0, hz1, hz2⟩ := info_parts byte_info
  have h := run_make (P := Tryz.prog) W 29 5 i0 _ Tryz.underlying29 hi0 hz0 .i64 .i64 (n : Int) (n : Int) (by omega) (Int.le_refl _) (by rw [hz2]; omega) (by omega)
  rw [Int.toNat_natCast, hz1, Nat.mul_one, made_bytes] at h
  exact h
section
variable {b : Nat} {w w' : World} {hd rs rn : Nat} {wv : Value} {nw : Nat} {S : Nat → Bt}
theorem DiskAt.flushed (h : DiskAt b w hd rs rn wv nw S) : ∃ (T L : Bt), T.length = 16384 ∧ L.length = 16384 ∧ Blk w rs 5 (bytesV T).toArray ∧ Blk w rn 5 (bytesV L).toArray ∧ DiskAt b (w.setRow rs (bytesV L).toArray) hd rs rn wv nw S ∧ KeepL b [] [rs] [] w (w.setRow rs (bytesV L).toArray) := by
  obtain ⟨L, hl, -, -, hb, -, hrow⟩ := h.now.whole h.ok
  obtain ⟨T, hT, hs⟩ := h.safe
  obtain ⟨xs, ho⟩ := h.wait
  have hb2 := setRow_blk hs (bytesV L).toArray
  have hg : w.grownBy (w.setRow rs (bytesV L).toArray) (some rs) := setRow_grown (World.grownBy.refl w _) _
  have hk : KeepL b [] [rs] [] w (w.setRow rs (bytesV L).toArray) := KeepL.row hs (.inr (by simp)) h.ge.2.1 hg
  have hne1 : hd ≠ rs := fun e => by
    have h1 := h.box
    subst e
    exact Blk.ne_ h1 hs (by decide) rfl
  refine ⟨T, L, hT, hl, hs, hb, ⟨hk.blk h.box (by simp) (by simpa using hne1), ⟨L, hl, hb2⟩, hrow _ _ (hk.blk hb (by simp) (by simpa using fun e => h.ne e.symm)), h.ok, ⟨xs, hk.own ho (by simp) (fun k hk' => ?_)⟩, h.ne, h.ge⟩, hk⟩
  have := own_blk_ne ho hs (by decide)
  intro e
  rw [List.mem_singleton.1 e] at hk'
  exact this hk'
theorem DiskAt.emptied (h : DiskAt b w hd rs rn wv nw S) : DiskAt b (w.setCell ⟨hd, 2, none⟩ (.slice none 0 0)) hd rs rn (.slice none 0 0) 0 S ∧ KeepL b [123] [] [] w (w.setCell ⟨hd, 2, none⟩ (.slice none 0 0)) := by
  obtain ⟨T, hT, hs⟩ := h.safe
  obtain ⟨N, L, hN, hL, hn⟩ := h.now
  have hk2 : KeepL b [123] [] [] w (w.setCell ⟨hd, 2, none⟩ (.slice none 0 0)) := KeepL.set h.box (.inl (by simp)) h.ge.1 _ _
  exact ⟨⟨h.box.set_ 2 _, ⟨T, hT, hk2.blk hs (by decide) (by simp)⟩, ⟨N, L, hN, hL, hk2.blk hn (by decide) (by simp)⟩, h.ok, ⟨[], World.ownsRow_nil _ _ _ _⟩, h.ne, h.ge⟩, hk2⟩
set_option maxHeartbeats 8000000 in
set_option maxRecDepth 100000 in
theorem diskflush_ok (h : DiskAt b w hd rs rn wv nw S) : Calls Tryz.prog 58 #[.pointer (some ⟨hd, 0, none⟩)] w fun e w' => e = .returned (.tuple #[]) ∧ DiskAt b w' hd rs rn (.slice none 0 0) 0 S ∧ KeepL b [123] [rs] [] w w' := by
  have HGO := hide (diskgoes_ok h)
  have hxd : Ext w w.drew := (Ext.refl w).drew
  have hdd := h.ext hxd
  have c0 : w.drew.cell? ⟨hd, 0, none⟩ = some (.slice (some ⟨rs, 0, none⟩) 16384 16384) := hdd.box.cell 0
  have c1 : w.drew.cell? ⟨hd, 1, none⟩ = some (.slice (some ⟨rn, 0, none⟩) 16384 16384) := hdd.box.cell 1
  obtain ⟨T, L, hT, hL, hbs, hbn, hf, hkf⟩ := hdd.flushed
  have HF := hide (And.intro hf hkf)
  have hsz1 : (Tryz.prog.info? 5).map (·.size) = some 1 := by kernel_rfl
  have hcp : ∀ ty, (Builtin.copy_ #[29, 29] ty #[.slice (some ⟨rs, 0, none⟩) 16384 16384, .slice (some ⟨rn, 0, none⟩) 16384 16384]).run Tryz.prog w.drew = .ok (goInt (Nat.min 16384 16384)) (w.drew.setRow rs (bytesV L).toArray) := fun ty => by
    have := run_copy_rowN (P := Tryz.prog) w.drew 29 29 ty 5 1 rs 0 16384 16384 ⟨rn, 0, none⟩ 16384 16384 (bytesV T).toArray 5 (bytesV L) Tryz.underlying29 hsz1 hbs (by rw [bytesV_length, hL]; rfl) (fun j v hv => by rw [add_lit, Nat.zero_add, hbn.cell, List.getElem?_toArray]; exact hv) (by rw [List.size_toArray, bytesV_length, bytesV_length, hL, hT]; exact Nat.le_refl _) (bytesV_one _)
    rw [show spl (bytesV T).toArray.toList 0 (bytesV L) = bytesV L by
      unfold spl
      rw [List.take_zero, List.nil_append, List.drop_of_length_le (by show (bytesV T).length ≤ 0 + (bytesV L).length; rw [bytesV_length, bytesV_length, hT, hL]; omega), List.append_nil]] at this
    exact this
  clear h hdd hf hkf hbs hbn
  go_enter Tryz.func58, Tryz.ntmps58
  go_wp2_with fail
  refine HGO.out.mono ?_
  rintro e w' ⟨rfl, hw'⟩
  subst hw'
  clear HGO
  go_upto_region 1 with fail
  refine begin_held (fun (w' : World) => w'.cell? ⟨hd, 0, none⟩ = some (.slice (some ⟨rs, 0, none⟩) 16384 16384) ∧ w'.cell? ⟨hd, 1, none⟩ = some (.slice (some ⟨rn, 0, none⟩) 16384 16384)) (by kernel_rfl) ?_
  have hS0 : (fun (w' : World) => w'.cell? ⟨hd, 0, none⟩ = some (.slice (some ⟨rs, 0, none⟩) 16384 16384) ∧ w'.cell? ⟨hd, 1, none⟩ = some (.slice (some ⟨rn, 0, none⟩) 16384 16384)) (w.drew) := by exact ⟨c0, c1⟩
  refine takeH_op (i := 0) (d := some 4) (v := ?v1001) hS0 rfl (by kernel_rfl) (by kernel_rfl) (by kernel_rfl) (fun _ _ _ h => h) (fun oi ho => ?hy1001) ?rest1001
  case hy1001 => (simp only [List.getElem?_toArray, List.getElem?_cons_zero, Option.some.injEq] at ho; subst ho; refine Or.inl ⟨by rfl, fun w' _ => ?_⟩; go_simp; try (with_reducible rfl))
  simp only [Act.put, List.setIfInBounds_toArray, List.set_cons_zero, List.set_cons_succ]
  refine takeH_op (i := 1) (d := some 5) (v := ?v1002) hS0 rfl (by kernel_rfl) (by kernel_rfl) (by kernel_rfl) (fun _ _ _ h => h) (fun oi ho => ?hy1002) ?rest1002
  case hy1002 => (simp only [List.getElem?_toArray, List.getElem?_cons_succ, List.getElem?_cons_zero, Option.some.injEq] at ho; subst ho; refine Or.inl ⟨by rfl, fun w' _ => ?_⟩; go_simp; try (with_reducible rfl))
  simp only [Act.put, List.setIfInBounds_toArray, List.set_cons_zero, List.set_cons_succ]
  refine takeH_op (i := 2) (d := some 6) (v := ?v1003) hS0 rfl (by kernel_rfl) (by kernel_rfl) (by kernel_rfl) (fun _ _ _ h => h) (fun oi ho => ?hy1003) ?rest1003
  case hy1003 => (simp only [List.getElem?_toArray, List.getElem?_cons_succ, List.getElem?_cons_zero, Option.some.injEq] at ho; subst ho; refine Or.inl ⟨by rfl, fun w' _ => ?_⟩; go_simp; try (with_reducible rfl))
  simp only [Act.put, List.setIfInBounds_toArray, List.set_cons_zero, List.set_cons_succ]
  refine takeH_op (i := 3) (d := some 7) (v := ?v1004) hS0 rfl (by kernel_rfl) (by kernel_rfl) (by kernel_rfl) (fun _ _ _ h => h) (fun oi ho => ?hy1004) ?rest1004
  case hy1004 => (simp only [List.getElem?_toArray, List.getElem?_cons_succ, List.getElem?_cons_zero, Option.some.injEq] at ho; subst ho; refine Or.inl ⟨by rfl, fun w' hS' => ?_⟩; obtain ⟨k1, k2⟩ := hS'; go_simp; try (with_reducible rfl))
  simp only [Act.put, List.setIfInBounds_toArray, List.set_cons_zero, List.set_cons_succ]
  refine takeH_op (i := 4) (d := some 8) (v := ?v1005) hS0 rfl (by kernel_rfl) (by kernel_rfl) (by kernel_rfl) (fun _ _ _ h => h) (fun oi ho => ?hy1005) ?rest1005
  case hy1005 => (simp only [List.getElem?_toArray, List.getElem?_cons_succ, List.getElem?_cons_zero, Option.some.injEq] at ho; subst ho; refine Or.inl ⟨by rfl, fun w' _ => ?_⟩; go_simp; try (with_reducible rfl))
  simp only [Act.put, List.setIfInBounds_toArray, List.set_cons_zero, List.set_cons_succ]
  refine takeH_op (i := 5) (d := some 9) (v := ?v1006) hS0 rfl (by kernel_rfl) (by kernel_rfl) (by kernel_rfl) (fun _ _ _ h => h) (fun oi ho => ?hy1006) ?rest1006
  case hy1006 => (simp only [List.getElem?_toArray, List.getElem?_cons_succ, List.getElem?_cons_zero, Option.some.injEq] at ho; subst ho; refine Or.inl ⟨by rfl, fun w' _ => ?_⟩; go_simp; try (with_reducible rfl))
  simp only [Act.put, List.setIfInBounds_toArray, List.set_cons_zero, List.set_cons_succ]
  refine takeH_op (i := 6) (d := some 10) (v := ?v1007) hS0 rfl (by kernel_rfl) (by kernel_rfl) (by kernel_rfl) (fun _ _ _ h => h) (fun oi ho => ?hy1007) ?rest1007
  case hy1007 => (simp only [List.getElem?_toArray, List.getElem?_cons_succ, List.getElem?_cons_zero, Option.some.injEq] at ho; subst ho; refine Or.inl ⟨by rfl, fun w' _ => ?_⟩; go_simp; try (with_reducible rfl))
  simp only [Act.put, List.setIfInBounds_toArray, List.set_cons_zero, List.set_cons_succ]
  refine takeH_op (i := 7) (d := some 11) (v := ?v1008) hS0 rfl (by kernel_rfl) (by kernel_rfl) (by kernel_rfl) (fun _ _ _ h => h) (fun oi ho => ?hy1008) ?rest1008
  case hy1008 => (simp only [List.getElem?_toArray, List.getElem?_cons_succ, List.getElem?_cons_zero, Option.some.injEq] at ho; subst ho; refine Or.inl ⟨by rfl, fun w' hS' => ?_⟩; obtain ⟨k1, k2⟩ := hS'; go_simp; try (with_reducible rfl))
  simp only [Act.put, List.setIfInBounds_toArray, List.set_cons_zero, List.set_cons_succ]
  refine readyH (rs := [8]) (by kernel_rfl) (by simp) ?_
  refine consH_op (by decide) (fun o ho K hK => ?_) ?_
  simp only [List.getElem?_toArray, List.getElem?_cons_succ, List.getElem?_cons_zero, Option.some.injEq] at ho
  subst ho
  refine step_copy_eqN (by rfl) _ _ 29 29 (by rfl) _ _ (by rfl) (by rfl) (hcp _) ?_
  have hS1009 : (fun (w' : World) => w'.cell? ⟨hd, 0, none⟩ = some (.slice (some ⟨rs, 0, none⟩) 16384 16384) ∧ w'.cell? ⟨hd, 1, none⟩ = some (.slice (some ⟨rn, 0, none⟩) 16384 16384)) ((w.drew.setRow rs (bytesV L).toArray)) := by exact ⟨HF.out.1.box.cell 0, HF.out.1.box.cell 1⟩
  refine hK _ _ hS1009 ?_
  clear hK K
  try (simp only [Act.put, List.setIfInBounds_toArray, List.set_cons_zero, List.set_cons_succ])
  refine wpAnyH_done (by kernel_rfl) ?_ _
  rotate_left
  exact allH_nil
  have HKX := hide ((KeepL.of hxd b [123] [rs] []).trans (HF.out.2.wide (Nat.le_refl _) (by simp) (by simp) (by simp)))
  have HD := hide HF.out.1
  clear HF hcp c0 c1 hxd
  generalize w.drew.setRow _ _ = w2 at *
  have HE := hide HD.out.emptied
  have c2 : w2.cell? ⟨hd, 2, none⟩ = some wv := HD.out.box.cell 2
  have f2 := HD.out.box.frozen 2
  go_wp2_with fail
  (first | go_end0 | ((try simp only [Exit.inBlock, Exit.then]); refine bodyPost_ret (results_none rfl _ _ _) rfl ?_))
  exact ⟨rfl, HE.out.1, HKX.out.trans (HE.out.2.wide (Nat.le_refl _) (by simp) (by simp) (by simp))⟩
end
theorem boxes3 (w : World) (t0 t1 t2 : TypeId) (c0 c1 c2 : Array Value) : Blk (((w.alloc (.cells c0 t0)).alloc (.cells c1 t1)).alloc (.cells c2 t2)) w.heap.size t0 c0 ∧ Blk (((w.alloc (.cells c0 t0)).alloc (.cells c1 t1)).alloc (.cells c2 t2)) (w.heap.size + 1) t1 c1 ∧
    Blk (((w.alloc (.cells c0 t0)).alloc (.cells c1 t1)).alloc (.cells c2 t2)) (w.heap.size + 1 + 1) t2 c2 ∧ Ext w (((w.alloc (.cells c0 t0)).alloc (.cells c1 t1)).alloc (.cells c2 t2)) :=
  ⟨((Blk.new w t0 c0).alloc _).alloc _, (Blk.new' (w.alloc (.cells c0 t0)) t1 c1 (by simp)).alloc _, Blk.new' ((w.alloc (.cells c0 t0)).alloc (.cells c1 t1)) t2 c2 (by simp), (((Ext.refl w).alloc _).alloc _).alloc _⟩
theorem disk_made {b : Nat} {w : World} {hd rs rn : Nat} (hb : Blk w hd 123 #[.slice (some ⟨rs, 0, none⟩) 16384 16384, .slice (some ⟨rn, 0, none⟩) 16384 16384, .slice none 0 0, .int .i64 (-1)]) (hs : Blk w rs 5 (bytesV zeroB).toArray) (hn : Blk w rn 5 (bytesV zeroB).toArray) (hne : rs ≠ rn) (hge : b ≤ hd ∧ b ≤ rs ∧ b ≤ rn) :
    DiskAt b w hd rs rn (.slice none 0 0) 0 (fun _ => zero64) :=
  ⟨hb, ⟨zeroB, by rw [zeroB, List.length_replicate], hs⟩, ⟨256, zeroB, rfl, (flatS_zero 256).symm, hn⟩, zero64_ok, ⟨[], World.ownsRow_nil _ _ _ _⟩, hne, hge⟩
set_option maxHeartbeats 8000000 in
set_option maxRecDepth 100000 in
theorem disknew_ok (w : World) : Calls Tryz.prog 23 #[.int .i64 256] w fun e w' => ∃ hd rs rn, e = .returned (.tuple #[.pointer (some ⟨hd, 0, none⟩), .int .i64 0]) ∧ DiskAt w.heap.size w' hd rs rn (.slice none 0 0) 0 (fun _ => zero64) ∧ Ext w w' := by
  have hmk : ∀ W : World, (Instr.makeSlice 29 (.int .i64 16384) (.int .i64 16384)).run Tryz.prog W = .ok (.slice (some ⟨W.heap.size, 0, none⟩) 16384 16384) (W.alloc (.cells (bytesV zeroB).toArray 5)) := run_made 16384 (by omega)
  go_enter Tryz.func23, Tryz.ntmps23
  go_upto_region 4 with fail
  refine begin_held (fun (w' : World) => True) (by kernel_rfl) ?_
  have hS0 : (fun (w' : World) => True) (w.drew) := by trivial
  have HX0 := hide ((Ext.refl w).drew)
  generalize w.drew = wd at HX0 ⊢
  refine takeH_op (i := 0) (d := some 13) (v := ?v2001) hS0 rfl (by kernel_rfl) (by kernel_rfl) (by kernel_rfl) (fun _ _ _ h => h) (fun oi ho => ?hy2001) ?rest2001
  case hy2001 => (simp only [List.getElem?_toArray, List.getElem?_cons_zero, Option.some.injEq] at ho; subst ho; refine Or.inl ⟨by rfl, fun w' _ => ?_⟩; go_simp; try (with_reducible rfl))
  simp only [Act.put, List.setIfInBounds_toArray, List.set_cons_zero, List.set_cons_succ]
  refine takeH_op (i := 2) (d := some 15) (v := ?v2002) hS0 rfl (by kernel_rfl) (by kernel_rfl) (by kernel_rfl) (fun _ _ _ h => h) (fun oi ho => ?hy2002) ?rest2002
  case hy2002 => (simp only [List.getElem?_toArray, List.getElem?_cons_succ, List.getElem?_cons_zero, Option.some.injEq] at ho; subst ho; refine Or.inl ⟨by rfl, fun w' _ => ?_⟩; go_simp; try (with_reducible rfl))
  simp only [Act.put, List.setIfInBounds_toArray, List.set_cons_zero, List.set_cons_succ]
  refine readyH (rs := [1, 3]) (by kernel_rfl) (by simp) ?_
  refine consH_op (by decide) (fun o ho K hK => ?_) ?_
  simp only [List.getElem?_toArray, List.getElem?_cons_succ, List.getElem?_cons_zero, Option.some.injEq] at ho
  subst ho
  go_simp
  have hS2003 : (fun (w' : World) => True) ((wd.alloc (.cells (bytesV zeroB).toArray 5))) := by trivial
  refine hK _ _ hS2003 ?_
  clear hK K
  refine readyH (rs := [3]) (by kernel_rfl) (by simp) ?_
  refine consH_op (by decide) (fun o ho K hK => ?_) ?_
  simp only [List.getElem?_toArray, List.getElem?_cons_succ, List.getElem?_cons_zero, Option.some.injEq] at ho
  subst ho
  go_simp
  have hS2004 : (fun (w' : World) => True) (((wd.alloc (.cells (bytesV zeroB).toArray 5)).alloc (.cells (bytesV zeroB).toArray 5))) := by trivial
  refine hK _ _ hS2004 ?_
  clear hK K
  refine takeH_op (i := 4) (d := some 17) (v := ?v2005) hS2004 rfl (by kernel_rfl) (by kernel_rfl) (by kernel_rfl) (fun _ _ _ h => h) (fun oi ho => ?hy2005) ?rest2005
  case hy2005 => (simp only [List.getElem?_toArray, List.getElem?_cons_succ, List.getElem?_cons_zero, Option.some.injEq] at ho; subst ho; refine Or.inl ⟨by rfl, fun w' _ => ?_⟩; go_simp; try (with_reducible rfl))
  simp only [Act.put, List.setIfInBounds_toArray, List.set_cons_zero, List.set_cons_succ]
  refine readyH (rs := [5]) (by kernel_rfl) (by simp) ?_
  refine consH_op (by decide) (fun o ho K hK => ?_) ?_
  simp only [List.getElem?_toArray, List.getElem?_cons_succ, List.getElem?_cons_zero, Option.some.injEq] at ho
  subst ho
  go_simp
  have hS2006 : (fun (w' : World) => True) (((wd.alloc (.cells (bytesV zeroB).toArray 5)).alloc (.cells (bytesV zeroB).toArray 5))) := by trivial
  refine hK _ _ hS2006 ?_
  clear hK K
  refine takeH_op (i := 6) (d := some 2) (v := ?v2007) hS2006 rfl (by kernel_rfl) (by kernel_rfl) (by kernel_rfl) (fun _ _ _ h => h) (fun oi ho => ?hy2007) ?rest2007
  case hy2007 => (simp only [List.getElem?_toArray, List.getElem?_cons_succ, List.getElem?_cons_zero, Option.some.injEq] at ho; subst ho; refine Or.inl ⟨by rfl, fun w' _ => ?_⟩; go_simp; try (with_reducible rfl))
  simp only [Act.put, List.setIfInBounds_toArray, List.set_cons_zero, List.set_cons_succ]
  refine takeH_op (i := 7) (d := some 3) (v := ?v2008) hS2006 rfl (by kernel_rfl) (by kernel_rfl) (by kernel_rfl) (fun _ _ _ h => h) (fun oi ho => ?hy2008) ?rest2008
  case hy2008 => (simp only [List.getElem?_toArray, List.getElem?_cons_succ, List.getElem?_cons_zero, Option.some.injEq] at ho; subst ho; refine Or.inl ⟨by rfl, fun w' _ => ?_⟩; go_simp; try (with_reducible rfl))
  simp only [Act.put, List.setIfInBounds_toArray, List.set_cons_zero, List.set_cons_succ]
  refine wpAnyH_done (by kernel_rfl) ?_ _
  rotate_left
  exact allH_nil
  exact allH_nil
  refine consH_op (by decide) (fun o ho K hK => ?_) ?_
  simp only [List.getElem?_toArray, List.getElem?_cons_succ, List.getElem?_cons_zero, Option.some.injEq] at ho
  subst ho
  go_simp
  have hS2009 : (fun (w' : World) => True) ((wd.alloc (.cells (bytesV zeroB).toArray 5))) := by trivial
  refine hK _ _ hS2009 ?_
  clear hK K
  refine readyH (rs := [1]) (by kernel_rfl) (by simp) ?_
  refine consH_op (by decide) (fun o ho K hK => ?_) ?_
  simp only [List.getElem?_toArray, List.getElem?_cons_succ, List.getElem?_cons_zero, Option.some.injEq] at ho
  subst ho
  go_simp
  have hS2010 : (fun (w' : World) => True) (((wd.alloc (.cells (bytesV zeroB).toArray 5)).alloc (.cells (bytesV zeroB).toArray 5))) := by trivial
  refine hK _ _ hS2010 ?_
  clear hK K
  refine takeH_op (i := 4) (d := some 17) (v := ?v2011) hS2010 rfl (by kernel_rfl) (by kernel_rfl) (by kernel_rfl) (fun _ _ _ h => h) (fun oi ho => ?hy2011) ?rest2011
  case hy2011 => (simp only [List.getElem?_toArray, List.getElem?_cons_succ, List.getElem?_cons_zero, Option.some.injEq] at ho; subst ho; refine Or.inl ⟨by rfl, fun w' _ => ?_⟩; go_simp; try (with_reducible rfl))
  simp only [Act.put, List.setIfInBounds_toArray, List.set_cons_zero, List.set_cons_succ]
  refine readyH (rs := [5]) (by kernel_rfl) (by simp) ?_
  refine consH_op (by decide) (fun o ho K hK => ?_) ?_
  simp only [List.getElem?_toArray, List.getElem?_cons_succ, List.getElem?_cons_zero, Option.some.injEq] at ho
  subst ho
  go_simp
  have hS2012 : (fun (w' : World) => True) (((wd.alloc (.cells (bytesV zeroB).toArray 5)).alloc (.cells (bytesV zeroB).toArray 5))) := by trivial
  refine hK _ _ hS2012 ?_
  clear hK K
  refine takeH_op (i := 6) (d := some 2) (v := ?v2013) hS2012 rfl (by kernel_rfl) (by kernel_rfl) (by kernel_rfl) (fun _ _ _ h => h) (fun oi ho => ?hy2013) ?rest2013
  case hy2013 => (simp only [List.getElem?_toArray, List.getElem?_cons_succ, List.getElem?_cons_zero, Option.some.injEq] at ho; subst ho; refine Or.inl ⟨by rfl, fun w' _ => ?_⟩; go_simp; try (with_reducible rfl))
  simp only [Act.put, List.setIfInBounds_toArray, List.set_cons_zero, List.set_cons_succ]
  refine takeH_op (i := 7) (d := some 3) (v := ?v2014) hS2012 rfl (by kernel_rfl) (by kernel_rfl) (by kernel_rfl) (fun _ _ _ h => h) (fun oi ho => ?hy2014) ?rest2014
  case hy2014 => (simp only [List.getElem?_toArray, List.getElem?_cons_succ, List.getElem?_cons_zero, Option.some.injEq] at ho; subst ho; refine Or.inl ⟨by rfl, fun w' _ => ?_⟩; go_simp; try (with_reducible rfl))
  simp only [Act.put, List.setIfInBounds_toArray, List.set_cons_zero, List.set_cons_succ]
  refine wpAnyH_done (by kernel_rfl) ?_ _
  rotate_left
  exact allH_nil
  exact allH_nil
  exact allH_nil
  · go_wp2_with fail
    go_ret2
    obtain ⟨h0, h1, h2, hx⟩ := boxes3 wd 5 5 123 (bytesV zeroB).toArray (bytesV zeroB).toArray #[.slice (some ⟨wd.heap.size, 0, none⟩) 16384 16384, .slice (some ⟨wd.heap.size + 1, 0, none⟩) 16384 16384, .slice none 0 0, .int .i64 (-1)]
    have hb := HX0.out.size
    exact ⟨_, rfl, ⟨_, _, disk_made h2 h0 h1 (by omega) ⟨by omega, by omega, by omega⟩⟩, HX0.out.trans hx⟩
  · go_wp2_with fail
    go_ret2
    obtain ⟨h0, h1, h2, hx⟩ := boxes3 wd 5 5 123 (bytesV zeroB).toArray (bytesV zeroB).toArray #[.slice (some ⟨wd.heap.size + 1, 0, none⟩) 16384 16384, .slice (some ⟨wd.heap.size, 0, none⟩) 16384 16384, .slice none 0 0, .int .i64 (-1)]
    have hb := HX0.out.size
    exact ⟨_, rfl, ⟨_, _, disk_made h2 h1 h0 (by omega) ⟨by omega, by omega, by omega⟩⟩, HX0.out.trans hx⟩
end Go.Proofs.YthmojneobkaolaaGreatDoor

namespace Go.Proofs.YthmojneobkaolaaGreatDoor
open Go.RowKit
set_option linter.unusedVariables false

/-- The cells of a set: its bytes. -/
def hsF (hs : Nat → Int) (j : Nat) : Value := .int .u8 (hs j)
def hsL (hs : Nat → Int) : List Value := (List.range 32).map (hsF hs)
theorem hsL_len (hs : Nat → Int) : (hsL hs).length = 32 := by simp [hsL]
theorem hsL_at (hs : Nat → Int) (j : Nat) (h : j < 32) : (hsL hs)[j]? = some (hsF hs j) := by simp [hsL, h]
theorem hsL_set (hs : Nat → Int) (j : Nat) (h : j < 32) (x : Int) : (hsL hs).toArray.setIfInBounds j (.int .u8 x) = (hsL (updN hs j x)).toArray := by
  apply Array.ext_getElem?
  intro i
  by_cases hi : i < 32
  · by_cases e : i = j
    · subst e
      rw [Array.getElem?_setIfInBounds_self_of_lt (by rw [List.size_toArray, hsL_len]; exact hi), List.getElem?_toArray, hsL_at _ _ hi, hsF, updN_same]
    · rw [Array.getElem?_setIfInBounds_ne (fun e' => e e'.symm), List.getElem?_toArray, List.getElem?_toArray, hsL_at _ _ hi, hsL_at _ _ hi, hsF, hsF, updN_other _ _ _ _ e]
  · rw [Array.getElem?_eq_none (by rw [Array.size_setIfInBounds, List.size_toArray, hsL_len]; omega), Array.getElem?_eq_none (by rw [List.size_toArray, hsL_len]; omega)]
theorem set_size (hs : Nat → Int) : (Tryz.prog.info? 126).map (·.size) = some (hsL hs).length := by
  rw [hsL_len]
  kernel_rfl
theorem hsL_one (hs : Nat → Int) : (hsL hs).toArray.all (·.oneCell') = true := by simp [hsL, hsF, Value.oneCell']
abbrev hs0 : Array Value := #[.int .u8 0, .int .u8 0, .int .u8 0, .int .u8 0, .int .u8 0, .int .u8 0, .int .u8 0, .int .u8 0, .int .u8 0, .int .u8 0, .int .u8 0, .int .u8 0, .int .u8 0, .int .u8 0, .int .u8 0, .int .u8 0, .int .u8 0, .int .u8 0, .int .u8 0, .int .u8 0, .int .u8 0, .int .u8 0, .int .u8 0, .int .u8 0, .int .u8 0, .int .u8 0, .int .u8 0, .int .u8 0, .int .u8 0, .int .u8 0, .int .u8 0, .int .u8 0]
theorem hs0_eq : hs0 = (hsL fun _ => 0).toArray := rfl
theorem i64_wr (n : Nat) (h : n ≤ 1000000) : IntKind.i64.wrap (n : Int) = (n : Int) := by
  unfold IntKind.wrap
  simp [IntKind.signed, IntKind.bits]
  omega
set_option maxHeartbeats 8000000 in
set_option maxRecDepth 100000 in
theorem with_ok (hs : Nat → Int) (n q r : Nat) (hn : n < 256) (hq : n = q * 8 + r) (hr8 : r < 8) (hb : 0 ≤ hs q ∧ hs q < 256) (w : World) : Calls Tryz.prog 54 #[.agg (hsL hs).toArray, .int .i64 (n : Int)] w fun e w' => e = .returned (.agg (hsL (updN hs q (bits BinOp.or IntKind.u8 (hs q) ((2 : Int) ^ r % 256)))).toArray) ∧ Ext w w' := by
  have hsz : (w.alloc (.cells (hsL hs).toArray 126)).heap.size = w.heap.size + 1 := by simp
  have HX := hide (((Ext.refl w).alloc (.cells (hsL hs).toArray 126)).alloc (.cells hs0 126))
  have HB0 := hide ((Blk.new w 126 (hsL hs).toArray).alloc (.cells hs0 126))
  have hb1 := Blk.new (w.alloc (.cells (hsL hs).toArray 126)) 126 hs0
  rw [hsz] at hb1
  have HB1 := hide hb1
  clear hb1 hsz
  have hn1 : (0 : Int) ≤ (n : Int) := by omega
  have hn2 : (n : Int) < 256 := by omega
  have e1 : (n : Int).tdiv 8 = (q : Int) := by rw [Int.tdiv_eq_ediv_of_nonneg (by omega)]; omega
  have e2 : (n : Int).tmod 8 = (r : Int) := by rw [Int.tmod_eq_emod_of_nonneg (by omega)]; omega
  have e3 : (n : Int) / 8 = (q : Int) := by omega
  have e4 : (n : Int) % 8 = (r : Int) := by omega
  have hq32 : q < 32 := by omega
  have e5 : IntKind.i64.wrap (q : Int) = (q : Int) := i64_wr q (by omega)
  have e6 : IntKind.i64.wrap (r : Int) = (r : Int) := i64_wr r (by omega)
  have HQ := hide hq
  clear hq
  have hq1 : (q : Int) < 32 := by omega
  go_enter Tryz.func54, Tryz.ntmps54
  go_upto_region 2 with fail
  obtain ⟨g, hg⟩ : ∃ g, w.heap.size = g := ⟨_, rfl⟩
  have hgw : w.heap.size ≤ g := by omega
  rw [hg] at HB0 HB1 ⊢
  clear hg
  generalize (w.alloc _).alloc _ = W at *
  have c0 : W.drew.cell? ⟨g, q, none⟩ = some (.int .u8 (hs q)) := by
    rw [HB0.out.drew.cell, List.getElem?_toArray, hsL_at _ _ hq32]
    rfl
  refine wp_region_pop_take (S := fun (w' : World) => w'.cell? ⟨g, q, none⟩ = some (.int .u8 (hs q))) 9 rfl rfl (by kernel_rfl) (by kernel_rfl) (by exact c0) (fun hS0 => ?_)
  simp only [List.take_succ_cons, List.take_zero]
  refine takeH_op (i := 0) (d := some 11) (v := ?v1001) hS0 rfl (by kernel_rfl) (by kernel_rfl) (by kernel_rfl) (fun _ _ _ h => h) (fun oi ho => ?hy1001) ?rest1001
  case hy1001 => (simp only [List.getElem?_toArray, List.getElem?_cons_zero, Option.some.injEq] at ho; subst ho; refine Or.inl ⟨by rfl, fun w' _ => ?_⟩; go_simp; try (with_reducible rfl))
  simp only [Act.put, List.setIfInBounds_toArray, List.set_cons_zero, List.set_cons_succ]
  refine takeH_op (i := 1) (d := some 12) (v := ?v1002) hS0 rfl (by kernel_rfl) (by kernel_rfl) (by kernel_rfl) (fun _ _ _ h => h) (fun oi ho => ?hy1002) ?rest1002
  case hy1002 => (simp only [List.getElem?_toArray, List.getElem?_cons_succ, List.getElem?_cons_zero, Option.some.injEq] at ho; subst ho; refine Or.inl ⟨by rfl, fun w' _ => ?_⟩; go_simp; try (with_reducible rfl))
  simp only [Act.put, List.setIfInBounds_toArray, List.set_cons_zero, List.set_cons_succ]
  refine takeH_op (i := 2) (d := some 13) (v := ?v1003) hS0 rfl (by kernel_rfl) (by kernel_rfl) (by kernel_rfl) (fun _ _ _ h => h) (fun oi ho => ?hy1003) ?rest1003
  case hy1003 => (simp only [List.getElem?_toArray, List.getElem?_cons_succ, List.getElem?_cons_zero, Option.some.injEq] at ho; subst ho; refine Or.inl ⟨by rfl, fun w' _ => ?_⟩; go_simp; try (with_reducible rfl))
  simp only [Act.put, List.setIfInBounds_toArray, List.set_cons_zero, List.set_cons_succ]
  refine takeH_op (i := 3) (d := some 14) (v := ?v1004) hS0 rfl (by kernel_rfl) (by kernel_rfl) (by kernel_rfl) (fun _ _ _ h => h) (fun oi ho => ?hy1004) ?rest1004
  case hy1004 => (simp only [List.getElem?_toArray, List.getElem?_cons_succ, List.getElem?_cons_zero, Option.some.injEq] at ho; subst ho; refine Or.inl ⟨by rfl, fun w' hS' => ?_⟩; skip; go_simp; try (with_reducible rfl))
  simp only [Act.put, List.setIfInBounds_toArray, List.set_cons_zero, List.set_cons_succ]
  refine takeH_op (i := 4) (d := some 15) (v := ?v1005) hS0 rfl (by kernel_rfl) (by kernel_rfl) (by kernel_rfl) (fun _ _ _ h => h) (fun oi ho => ?hy1005) ?rest1005
  case hy1005 => (simp only [List.getElem?_toArray, List.getElem?_cons_succ, List.getElem?_cons_zero, Option.some.injEq] at ho; subst ho; refine Or.inl ⟨by rfl, fun w' _ => ?_⟩; go_simp; try (with_reducible rfl))
  simp only [Act.put, List.setIfInBounds_toArray, List.set_cons_zero, List.set_cons_succ]
  refine takeH_op (i := 5) (d := some 16) (v := ?v1006) hS0 rfl (by kernel_rfl) (by kernel_rfl) (by kernel_rfl) (fun _ _ _ h => h) (fun oi ho => ?hy1006) ?rest1006
  case hy1006 => (simp only [List.getElem?_toArray, List.getElem?_cons_succ, List.getElem?_cons_zero, Option.some.injEq] at ho; subst ho; refine Or.inl ⟨by rfl, fun w' _ => ?_⟩; go_simp; try (with_reducible rfl))
  simp only [Act.put, List.setIfInBounds_toArray, List.set_cons_zero, List.set_cons_succ]
  refine takeH_op (i := 6) (d := some 17) (v := ?v1007) hS0 rfl (by kernel_rfl) (by kernel_rfl) (by kernel_rfl) (fun _ _ _ h => h) (fun oi ho => ?hy1007) ?rest1007
  case hy1007 => (simp only [List.getElem?_toArray, List.getElem?_cons_succ, List.getElem?_cons_zero, Option.some.injEq] at ho; subst ho; refine Or.inl ⟨by rfl, fun w' _ => ?_⟩; go_simp; try (with_reducible rfl))
  simp only [Act.put, List.setIfInBounds_toArray, List.set_cons_zero, List.set_cons_succ]
  refine takeH_op (i := 7) (d := some 18) (v := ?v1008) hS0 rfl (by kernel_rfl) (by kernel_rfl) (by kernel_rfl) (fun _ _ _ h => h) (fun oi ho => ?hy1008) ?rest1008
  case hy1008 => (simp only [List.getElem?_toArray, List.getElem?_cons_succ, List.getElem?_cons_zero, Option.some.injEq] at ho; subst ho; refine Or.inl ⟨by rfl, fun w' _ => ?_⟩; go_simp; try (with_reducible rfl))
  simp only [Act.put, List.setIfInBounds_toArray, List.set_cons_zero, List.set_cons_succ]
  refine takeH_op (i := 8) (d := some 19) (v := ?v1009) hS0 rfl (by kernel_rfl) (by kernel_rfl) (by kernel_rfl) (fun _ _ _ h => h) (fun oi ho => ?hy1009) ?rest1009
  case hy1009 => (simp only [List.getElem?_toArray, List.getElem?_cons_succ, List.getElem?_cons_zero, Option.some.injEq] at ho; subst ho; refine Or.inl ⟨by rfl, fun w' _ => ?_⟩; go_simp; try (with_reducible rfl))
  simp only [Act.put, List.setIfInBounds_toArray, List.set_cons_zero, List.set_cons_succ]
  refine wpAnyH_done (by kernel_rfl) ?_ _
  refine pop_last rfl ?_
  rotate_left
  have f0 : W.drew.frozen? ⟨g, q, none⟩ = false := HB0.out.drew.frozen q
  have HB0' := hide (HB0.out.drew.set_ q (.int .u8 (bits BinOp.or IntKind.u8 (hs q) ((2 : Int) ^ r % 256))))
  rw [hsL_set _ _ hq32] at HB0'
  have HB1' := hide (HB1.out.drew.far (show g + 1 ≠ g by omega) (p := ⟨g, q, none⟩) (.int .u8 (bits BinOp.or IntKind.u8 (hs q) ((2 : Int) ^ r % 256))))
  have HX' := hide (HX.out.drew.setCell (p := ⟨g, q, none⟩) (by show w.heap.size ≤ g; omega) (.int .u8 (bits BinOp.or IntKind.u8 (hs q) ((2 : Int) ^ r % 256))))
  clear HB0 HB1 HX
  go_upto_region 3 with fail
  change Code.wp _ _ _ _ (W.drew.setCell ⟨g, q, none⟩ (.int .u8 (bits BinOp.or IntKind.u8 (hs q) ((2 : Int) ^ r % 256))))
  generalize W.drew.setCell _ _ = W2 at *
  have HL := hide HB0'.out.all
  have HZ := hide (set_size (updN hs q (bits BinOp.or IntKind.u8 (hs q) ((2 : Int) ^ r % 256))))
  have HT := hide (HB1'.out.there_ 0 32 (Nat.le_refl _))
  have HLN := hide (hsL_len (updN hs q (bits BinOp.or IntKind.u8 (hs q) ((2 : Int) ^ r % 256))))
  go_wp2_with (first | ((with_reducible refine wpList_load_mid rfl 126 (.tmp 2) rfl g 0 rfl (hsL (updN hs q (bits BinOp.or IntKind.u8 (hs q) ((2 : Int) ^ r % 256)))) _ HL.out Tryz.underlying126 rfl HZ.out ?_)) | ((with_reducible refine wpList_store_mid rfl 126 (.tmp 4) (.tmp 20) rfl (g + 1) 0 (hsL (updN hs q (bits BinOp.or IntKind.u8 (hs q) ((2 : Int) ^ r % 256)))).toArray rfl ?_ ?_ ?_ (hsL_one _) ?_); (exact rfl); (rw [List.size_toArray, HLN.out]; exact HT.out); (rw [List.size_toArray]; exact HZ.out)))
  exact ret_cell Tryz.f54 4 rfl rfl rfl ((HB1'.out.setAll (hsL (updN hs q (bits BinOp.or IntKind.u8 (hs q) ((2 : Int) ^ r % 256)))) (by rw [HLN.out]; rfl)).all) Tryz.underlying126 rfl HZ.out ⟨rfl, HX'.out.setCells (by omega) 0 _⟩
end Go.Proofs.YthmojneobkaolaaGreatDoor

namespace Go.Proofs.YthmojneobkaolaaGreatDoor
open Go.RowKit
set_option linter.unusedVariables false

/-- The cells of a forest: the first tree's nodes and its set; three trees that are not there. -/
def forF (nd : Nat → Nat) (hs : Nat → Int) (o : Nat) : Value := if o < 16 then .int .i64 (nd o : Int) else if o < 48 then .int .u8 (hs (o - 16)) else if (o - 48) % 48 < 16 then .int .i64 0 else .int .u8 0
def forL (nd : Nat → Nat) (hs : Nat → Int) : List Value := (List.range 192).map (forF nd hs)
theorem forL_len (nd : Nat → Nat) (hs : Nat → Int) : (forL nd hs).length = 192 := by simp [forL]
theorem forL_at (nd : Nat → Nat) (hs : Nat → Int) (o : Nat) (h : o < 192) : (forL nd hs)[o]? = some (forF nd hs o) := by simp [forL, h]
theorem for_size (nd : Nat → Nat) (hs : Nat → Int) : (Tryz.prog.info? 130).map (·.size) = some (forL nd hs).length := by
  rw [forL_len]
  kernel_rfl
theorem forL_one (nd : Nat → Nat) (hs : Nat → Int) : (forL nd hs).toArray.all (·.oneCell') = true := by
  rw [List.all_toArray]
  refine List.all_eq_true.2 fun x hx => ?_
  obtain ⟨o, -, rfl⟩ := List.mem_map.1 hx
  unfold forF
  repeat (first | split | rfl)
section
variable {nd : Nat → Nat} {hs : Nat → Int} {w : World}
theorem nodes_at (k i : Nat) (hk : k < 4) (hi : i < 16) : (forL nd hs)[k * 48 + i]? = some (.int .i64 ((if k = 0 then nd i else 0 : Nat) : Int)) := by
  rw [forL_at _ _ _ (by omega)]
  unfold forF
  by_cases h : k = 0
  · subst h
    rw [if_pos (by omega), if_pos rfl, Nat.zero_mul, Nat.zero_add]
  · rw [if_neg (by omega), if_neg (by omega), if_pos (by omega), if_neg h]
    rfl
def ndL (nd : Nat → Nat) (k : Nat) : List Value := (List.range 16).map fun i => .int .i64 ((if k = 0 then nd i else 0 : Nat) : Int)
theorem ndL_at (k i : Nat) (hi : i < 16) : (ndL nd k).toArray[i]? = some (.int .i64 ((if k = 0 then nd i else 0 : Nat) : Int)) := by simp [ndL, hi]
theorem nodes_range {g k : Nat} (hk : k < 4) (h : Blk w g 130 (forL nd hs).toArray) : w.rangeAt g (k * 48) (ndL nd k) := h.range _ _ fun j v hv => by
  have hj : j < 16 := by have := (List.getElem?_eq_some_iff.1 hv).1; simpa [ndL] using this
  rw [List.getElem?_toArray, nodes_at k j hk hj, ← hv, ← List.getElem?_toArray, ndL_at k j hj]
theorem nd_size (k : Nat) : (Tryz.prog.info? 54).map (·.size) = some (ndL nd k).length := by
  rw [show (ndL nd k).length = 16 by simp [ndL]]
  kernel_rfl
abbrev tree0 : List Value := [.int .i64 0, .int .i64 0, .int .i64 0, .int .i64 0, .int .i64 0, .int .i64 0, .int .i64 0, .int .i64 0, .int .i64 0, .int .i64 0, .int .i64 0, .int .i64 0, .int .i64 0, .int .i64 0, .int .i64 0, .int .i64 0, .int .u8 0, .int .u8 0, .int .u8 0, .int .u8 0, .int .u8 0, .int .u8 0, .int .u8 0, .int .u8 0, .int .u8 0, .int .u8 0, .int .u8 0, .int .u8 0, .int .u8 0, .int .u8 0, .int .u8 0, .int .u8 0, .int .u8 0, .int .u8 0, .int .u8 0, .int .u8 0, .int .u8 0, .int .u8 0, .int .u8 0, .int .u8 0, .int .u8 0, .int .u8 0, .int .u8 0, .int .u8 0, .int .u8 0, .int .u8 0, .int .u8 0, .int .u8 0]
theorem tree_range {g k : Nat} (hk : k < 4) (hk0 : k ≠ 0) (h : Blk w g 130 (forL nd hs).toArray) : w.rangeAt g (k * 48) tree0 := h.range _ _ fun j v hv => by
  have hj : j < 48 := (List.getElem?_eq_some_iff.1 hv).1
  rw [List.getElem?_toArray, forL_at _ _ _ (by omega)]
  unfold forF
  rw [if_neg (by omega), if_neg (by omega), ← hv]
  have e : (k * 48 + j - 48) % 48 = j := by omega
  rw [e]
  have ht : tree0 = List.replicate 16 (.int .i64 0) ++ List.replicate 32 (.int .u8 0) := rfl
  rw [ht]
  by_cases h16 : j < 16
  · rw [if_pos h16, List.getElem?_append_left (by rw [List.length_replicate]; exact h16), List.getElem?_replicate, if_pos h16]
  · rw [if_neg h16, List.getElem?_append_right (by rw [List.length_replicate]; omega), List.length_replicate, List.getElem?_replicate, if_pos (by omega)]
theorem tree_size : (Tryz.prog.info? 128).map (·.size) = some tree0.length := by kernel_rfl
theorem same16 (w : World) : (Op.equalIn 9999 54 (.agg #[.int .i64 0, .int .i64 0, .int .i64 0, .int .i64 0, .int .i64 0, .int .i64 0, .int .i64 0, .int .i64 0, .int .i64 0, .int .i64 0, .int .i64 0, .int .i64 0, .int .i64 0, .int .i64 0, .int .i64 0, .int .i64 0]) (.agg #[.int .i64 0, .int .i64 0, .int .i64 0, .int .i64 0, .int .i64 0, .int .i64 0, .int .i64 0, .int .i64 0, .int .i64 0, .int .i64 0, .int .i64 0, .int .i64 0, .int .i64 0, .int .i64 0, .int .i64 0, .int .i64 0])).run Tryz.prog w = .ok true w := by kernel_rfl
theorem same32 (w : World) : (Op.equalIn 9999 126 (.agg #[.int .u8 0, .int .u8 0, .int .u8 0, .int .u8 0, .int .u8 0, .int .u8 0, .int .u8 0, .int .u8 0, .int .u8 0, .int .u8 0, .int .u8 0, .int .u8 0, .int .u8 0, .int .u8 0, .int .u8 0, .int .u8 0, .int .u8 0, .int .u8 0, .int .u8 0, .int .u8 0, .int .u8 0, .int .u8 0, .int .u8 0, .int .u8 0, .int .u8 0, .int .u8 0, .int .u8 0, .int .u8 0, .int .u8 0, .int .u8 0, .int .u8 0, .int .u8 0]) (.agg #[.int .u8 0, .int .u8 0, .int .u8 0, .int .u8 0, .int .u8 0, .int .u8 0, .int .u8 0, .int .u8 0, .int .u8 0, .int .u8 0, .int .u8 0, .int .u8 0, .int .u8 0, .int .u8 0, .int .u8 0, .int .u8 0, .int .u8 0, .int .u8 0, .int .u8 0, .int .u8 0, .int .u8 0, .int .u8 0, .int .u8 0, .int .u8 0, .int .u8 0, .int .u8 0, .int .u8 0, .int .u8 0, .int .u8 0, .int .u8 0, .int .u8 0, .int .u8 0])).run Tryz.prog w = .ok true w := by kernel_rfl
set_option maxHeartbeats 8000000 in
set_option maxRecDepth 100000 in
theorem there_ok (h0 : nd 0 ≠ 0) (k : Nat) (hk : k < 4) (w : World) : Calls Tryz.prog 126 #[.agg (forL nd hs).toArray, .int .i64 (k : Int)] w fun e w' => e = .returned (.bool (decide (k = 0))) ∧ Ext w w' := by
  have hx := (Ext.refl w).alloc (.cells (forL nd hs).toArray 130)
  have HB := hide (Blk.new w 130 (forL nd hs).toArray)
  have hn0 : ((nd 0 : Int) == 0) = false := beq_eq_false_iff_ne.2 (by omega)
  rcases (show k = 0 ∨ k = 1 ∨ k = 2 ∨ k = 3 by omega) with rfl | rfl | rfl | rfl
  · have c0 : (w.alloc (.cells (forL nd hs).toArray 130)).cell? ⟨w.heap.size, 0, none⟩ = some (.int .i64 (nd 0 : Int)) := by rw [HB.out.cell, List.getElem?_toArray, forL_at _ _ _ (by omega)]; rfl
    go_enter Tryz.func126, Tryz.ntmps126
    go_wp2_with fail
    go_ret
    exact ⟨by first | rfl | simp [h0], hx⟩
  · have c0 : (w.alloc (.cells (forL nd hs).toArray 130)).cell? ⟨w.heap.size, 48, none⟩ = some (.int .i64 0) := by rw [HB.out.cell, List.getElem?_toArray, forL_at _ _ _ (by omega)]; rfl
    go_enter Tryz.func126, Tryz.ntmps126
    go_wp2_with fail
    go_ret
    exact ⟨rfl, hx⟩
  · have c0 : (w.alloc (.cells (forL nd hs).toArray 130)).cell? ⟨w.heap.size, 96, none⟩ = some (.int .i64 0) := by rw [HB.out.cell, List.getElem?_toArray, forL_at _ _ _ (by omega)]; rfl
    go_enter Tryz.func126, Tryz.ntmps126
    go_wp2_with fail
    go_ret
    exact ⟨rfl, hx⟩
  · have c0 : (w.alloc (.cells (forL nd hs).toArray 130)).cell? ⟨w.heap.size, 144, none⟩ = some (.int .i64 0) := by rw [HB.out.cell, List.getElem?_toArray, forL_at _ _ _ (by omega)]; rfl
    go_enter Tryz.func126, Tryz.ntmps126
    go_wp2_with fail
    go_ret
    exact ⟨rfl, hx⟩
theorem wpList_load_mid_g {P : Program} {ops : Array Oper} {rest : List Oper} {op : Oper} {a : Act} {w : World} {Q : Exit → Act → World → Prop} (hw : Region.wanted op (yielded ops a.tmps) = true) (ty : TypeId) (x : Operand) (ho : op.op = .load ty x)
    (b o : Nat) (hx : a.eval x = .pointer (some ⟨b, o, none⟩)) (cs : List Value) (d : TypeDesc) (hc : w.rangeAt b o cs) (hu : P.underlying ty = some d) (hd : d.isRow = true) (hi : (P.info? ty).map (·.size) = some cs.length)
    (h : wpList P ops Q rest (a.put op.dst (.agg cs.toArray)) w) : wpList P ops Q (op :: rest) a w := by
  unfold wpList
  rw [if_pos hw]
  exact .inl (wp_load_mid ty x ho b o hx cs d hc hu hd hi h)
/-- While it looks at the trees. -/
def RkRel (v : Value) (w0 wr : World) : Prop := ∃ k : Nat, v = .int .i64 (k : Int) ∧ k ≤ 4 ∧ Ext w0 wr
def RiRel (v : Value) (w0 wr : World) : Prop := ∃ i : Nat, v = .int .i64 (i : Int) ∧ i ≤ 16 ∧ w0 = wr
theorem int_info3 : (Tryz.prog.info? 3).map (fun i => (i.zero, i.size, i.bytes)) = some (some (.int .i64 0), 1, 8) := by kernel_rfl
theorem index_nd (k i : Nat) (hi : i < 16) (w : World) : (Instr.index 54 (.agg (ndL nd k).toArray) (.int .i64 (i : Int))).run Tryz.prog w = .ok (.int .i64 ((if k = 0 then nd i else 0 : Nat) : Int)) w := by
  obtain ⟨i0, hi0, -, hz1, -⟩ := info_parts int_info3
  exact index_arr Tryz.underlying54 Tryz.underlying3 rfl hi0 hz1 _ i hi (ndL_at k i hi) _ w
set_option maxHeartbeats 8000000 in
set_option maxRecDepth 100000 in
theorem snapright_ok (h0 : nd 0 ≠ 0) (hnd : ∀ i, i < 16 → nd i < 256) (w : World) : Calls Tryz.prog 121 #[.agg (forL nd hs).toArray] w fun e w' => e = .returned (.int .i64 0) ∧ Ext w w' := by
  have HX := hide ((Ext.refl w).alloc (.cells (forL nd hs).toArray 130))
  have HB := hide (Blk.new w 130 (forL nd hs).toArray)
  have HND := hide hnd
  have HTH := hide (there_ok (nd := nd) (hs := hs) h0)
  clear hnd
  go_enter Tryz.func121, Tryz.ntmps121
  go_upto_region 2 with fail
  obtain ⟨g, hg⟩ : ∃ g, w.heap.size = g := ⟨_, rfl⟩
  rw [hg] at HB ⊢
  clear hg
  generalize w.alloc _ = W at *
  go_loopw [6] (RkRel · W) (fun v _ => 4 - (intOf v).toNat)
  case atStart => exact ⟨0, rfl, by omega, Ext.refl _⟩
  case round =>
    obtain ⟨k, rfl, hk, hxk⟩ := hrel
    have HXK := hide hxk
    have HBK := hide (HB.out.ext hxk)
    clear hxk
    by_cases hlt : k < 4
    · have hlt' : (k : Int) < 4 := by omega
      have hk0 : (0 : Int) ≤ (k : Int) := by omega
      have HNR := hide (nodes_range hlt HBK.out)
      have HNS := hide (nd_size (nd := nd) k)
      go_upto_region 5 with ((with_reducible refine wpList_load_mid rfl 54 (.tmp 11) rfl g (k * 48) rfl (ndL nd k) _ HNR.out Tryz.underlying54 rfl HNS.out ?_))
      go_loopw [13] (RiRel · wr) (fun v _ => 16 - (intOf v).toNat)
      case atStart => exact ⟨0, rfl, by omega, rfl⟩
      case round =>
        obtain ⟨i, rfl, hi, hw⟩ := hrel
        subst hw
        by_cases hli : i < 16
        · have hli' : (i : Int) < 16 := by omega
          have hix := index_nd (nd := nd) k i hli wr
          have hx256 : (if k = 0 then nd i else 0) < 256 := by
            split
            · exact HND.out i hli
            · omega
          generalize (if k = 0 then nd i else 0) = x at *
          have d1 : decide ((x : Int) < 0) = false := decide_eq_false (by omega)
          have d2 : decide ((256 : Int) ≤ (x : Int)) = false := decide_eq_false (by omega)
          go_wp2_with fail
          go_roundw
          case rel => exact ⟨i + 1, by first | rfl | go_num, by omega, rfl⟩
          case measure => simp [intOf]; omega
        · obtain rfl : i = 16 := by omega
          have HLF := hide HBK.out.all
          have HFS := hide (for_size nd hs)
          by_cases hk0' : k = 0
          · subst hk0'
            go_wp2_with ((with_reducible refine wpList_load_mid rfl 130 (.tmp 1) rfl g 0 rfl (forL nd hs) _ HLF.out Tryz.underlying130 rfl HFS.out ?_))
            refine (HTH.out 0 (by omega) _).mono ?_
            rintro e w5 ⟨rfl, hx5⟩
            have HX5 := hide (HXK.out.trans hx5)
            clear hx5
            go_wp2_with fail
            go_roundw
            case rel => exact ⟨1, by first | rfl | go_num, by omega, HX5.out⟩
            case measure => simp [intOf]
          · have hd : decide (k = 0) = false := decide_eq_false hk0'
            go_wp2_with ((with_reducible refine wpList_load_mid rfl 130 (.tmp 1) rfl g 0 rfl (forL nd hs) _ HLF.out Tryz.underlying130 rfl HFS.out ?_))
            refine (HTH.out k hlt _).mono ?_
            rintro e w5 ⟨rfl, hx5⟩
            have HX5 := hide (HXK.out.trans hx5)
            have HTR := hide (tree_range hlt hk0' (HBK.out.ext hx5))
            have hs1 := same16 w5
            have hs2 := same32 w5
            clear hx5
            go_wp2_with ((with_reducible refine wpList_load_mid_g rfl 128 (.tmp 29) rfl g (k * 48) rfl tree0 _ HTR.out Tryz.underlying128 rfl tree_size ?_))
            go_roundw
            case rel => exact ⟨k + 1, by first | rfl | go_num, by omega, HX5.out⟩
            case measure => simp [intOf]; omega
    · obtain rfl : k = 4 := by omega
      go_wp2_with fail
      go_ret
      exact ⟨rfl, HX.out.trans HXK.out⟩
end
end Go.Proofs.YthmojneobkaolaaGreatDoor

namespace Go.Proofs.YthmojneobkaolaaGreatDoor
open Go.RowKit
set_option linter.unusedVariables false

def ndB (nd : Nat → Nat) (m : Nat) : Bt := (List.range m).map fun o => UInt8.ofNat (if o < 16 then nd o else 0)
def hsB (hs : Nat → Int) (m : Nat) : Bt := (List.range (32 * m)).map fun j => if j < 32 then UInt8.ofNat (hs j).toNat else 0
theorem ndB_snoc (nd : Nat → Nat) (m : Nat) : ndB nd (m + 1) = ndB nd m ++ [UInt8.ofNat (if m < 16 then nd m else 0)] := by
  unfold ndB
  rw [List.range_succ, List.map_append]
  rfl
theorem ndB_len (nd : Nat → Nat) (m : Nat) : (ndB nd m).length = m := by simp [ndB]
theorem hsB_len (hs : Nat → Int) (m : Nat) : (hsB hs m).length = 32 * m := by simp [hsB]
def packF (nd : Nat → Nat) (hs : Nat → Int) : Bt := ndB nd 64 ++ hsB hs 4
theorem packF_len (nd : Nat → Nat) (hs : Nat → Int) : (packF nd hs).length = 192 := by rw [packF, List.length_append, ndB_len, hsB_len]
theorem byte_nat (x : Nat) (h : x < 256) : bytesV [UInt8.ofNat x] = [.int .u8 (x : Int)] := by
  simp [bytesV, Nat.mod_eq_of_lt h]
/-- The bytes of a tree's set, in the forest's block. -/
theorem set_reads {nd : Nat → Nat} {hs : Nat → Int} {w : World} {g k : Nat} (hk : k < 4) (hh : ∀ j, j < 32 → 0 ≤ hs j ∧ hs j < 256) (h : Blk w g 130 (forL nd hs).toArray) : Reads w w.heap.size 1 (some ⟨g, k * 48 + 16, none⟩) 32 (bytesV ((List.range 32).map fun j => if k = 0 then UInt8.ofNat (hs j).toNat else 0)) := by
  refine ⟨by rw [bytesV_length, List.length_map, List.length_range], fun _ => ⟨_, rfl, h.lt, fun j u hu => ?_⟩⟩
  have hj : j < 32 := by
    have := (List.getElem?_eq_some_iff.1 hu).1
    rw [bytesV_length, List.length_map, List.length_range] at this
    exact this
  rw [add_lit, h.cell, List.getElem?_toArray, forL_at _ _ _ (by omega), ← hu]
  simp only [bytesV, List.map_map, List.getElem?_map, List.getElem?_range hj, Option.map_some, Function.comp]
  unfold forF
  rw [if_neg (by omega)]
  by_cases h0 : k = 0
  · subst h0
    obtain ⟨h1, h2⟩ := hh j hj
    rw [if_pos (by omega), if_pos rfl]
    rw [show 0 * 48 + 16 + j - 16 = j by omega]
    congr 2
    simp
    omega
  · rw [if_neg (by omega), if_neg (by omega), if_neg h0]
    rfl
theorem hsB_more (hs : Nat → Int) (k : Nat) : hsB hs (k + 1) = hsB hs k ++ (List.range 32).map fun j => if k = 0 then UInt8.ofNat (hs j).toNat else 0 := by
  unfold hsB
  rw [show 32 * (k + 1) = 32 * k + 32 by omega, List.range_add, List.map_append, List.map_map]
  congr 1
  apply List.map_congr_left
  intro j hj
  have hj' := List.mem_range.1 hj
  show (if 32 * k + j < 32 then UInt8.ofNat (hs (32 * k + j)).toNat else 0) = _
  by_cases h0 : k = 0
  · subst h0
    rw [if_pos (by omega), if_pos rfl, show 32 * 0 + j = j by omega]
  · rw [if_neg (by omega), if_neg h0]
def PkRel (nd : Nat → Nat) (B : Nat) (v u : Value) (w0 wr : World) : Prop := ∃ (k : Nat) (A : Option Addr) (c : Nat), v = .int .i64 (k : Int) ∧ k ≤ 4 ∧ u = .slice A (16 * k) c ∧ wr.ownsRow B 5 1 (.slice A (16 * k) c) (16 * k) (bytesV (ndB nd (16 * k))) ∧ Ext w0 wr
def PiRel (nd : Nat → Nat) (B k : Nat) (v u : Value) (w0 wr : World) : Prop := ∃ (i n : Nat) (A : Option Addr) (c : Nat), v = .int .i64 (i : Int) ∧ i ≤ 16 ∧ n = 16 * k + i ∧ u = .slice A n c ∧ wr.ownsRow B 5 1 (.slice A n c) n (bytesV (ndB nd n)) ∧ Ext w0 wr
def PhRel (nd : Nat → Nat) (hs : Nat → Int) (B : Nat) (v u : Value) (w0 wr : World) : Prop := ∃ (k n : Nat) (A : Option Addr) (c : Nat), v = .int .i64 (k : Int) ∧ k ≤ 4 ∧ n = 64 + 32 * k ∧ u = .slice A n c ∧ wr.ownsRow B 5 1 (.slice A n c) n (bytesV (ndB nd 64 ++ hsB hs k)) ∧ Ext w0 wr
section
variable {nd : Nat → Nat} {hs : Nat → Int} {w : World}
set_option maxHeartbeats 8000000 in
set_option maxRecDepth 100000 in
theorem snappack_ok (h0 : nd 0 ≠ 0) (hnd : ∀ i, i < 16 → nd i < 256) (hh : ∀ j, j < 32 → 0 ≤ hs j ∧ hs j < 256) (w : World) : Calls Tryz.prog 55 #[.agg (forL nd hs).toArray] w fun e w' => (∃ A c, e = .returned (.tuple #[.slice A 192 c, .int .i64 0]) ∧ w'.ownsRow w.heap.size 5 1 (.slice A 192 c) 192 (bytesV (packF nd hs))) ∧ Ext w w' := by
  obtain ⟨i0, hi0, hz0, hz1, hz2⟩ := info_parts byte_info
  have HX := hide ((Ext.refl w).alloc (.cells (forL nd hs).toArray 130))
  have HB := hide (Blk.new w 130 (forL nd hs).toArray)
  have HND := hide hnd
  have HH := hide hh
  have HRT := hide (snapright_ok (nd := nd) (hs := hs) h0 hnd)
  have HFS := hide (for_size nd hs)
  clear hnd hh
  obtain ⟨B, hB⟩ : ∃ B, w.heap.size = B := ⟨_, rfl⟩
  have HBS := hide hB
  go_enter Tryz.func55, Tryz.ntmps55
  go_upto_region 1 with fail
  rw [hB] at HB
  clear hB
  generalize w.alloc _ = W at *
  have HLF := hide HB.out.all
  go_wp2_with ((with_reducible refine wpList_load_mid rfl 130 (.tmp 1) rfl B 0 rfl (forL nd hs) _ HLF.out Tryz.underlying130 rfl HFS.out ?_))
  refine (HRT.out _).mono ?_
  rintro e w2 ⟨rfl, hx2⟩
  have HX2 := hide (HX.out.trans hx2)
  have HB2 := hide (HB.out.ext hx2)
  clear hx2 HB HX HLF HRT
  go_upto_region 6 with fail
  go_loopw [15, 5] (PkRel nd w2.heap.size · · w2) (fun v _ _ => 4 - (intOf v).toNat)
  case atStart => exact ⟨0, none, 0, rfl, by omega, rfl, World.ownsRow_nil _ _ _ _, Ext.refl _⟩
  case round =>
    obtain ⟨k, A, c, rfl, hk, rfl, ho, hxk⟩ := hrel
    have HO := hide ho
    have HXK := hide hxk
    have HBK := hide (HB2.out.ext hxk)
    clear ho hxk
    by_cases hlt : k < 4
    · have hlt' : (k : Int) < 4 := by omega
      have hk0 : (0 : Int) ≤ (k : Int) := by omega
      have HNR := hide (nodes_range hlt HBK.out)
      have HNS := hide (nd_size (nd := nd) k)
      go_upto_region 9 with ((with_reducible refine wpList_load_mid rfl 54 (.tmp 20) rfl B (k * 48) rfl (ndL nd k) _ HNR.out Tryz.underlying54 rfl HNS.out ?_))
      go_loopw [22, 5] (PiRel nd w2.heap.size k · · w2) (fun v _ _ => 16 - (intOf v).toNat)
      case atStart => exact ⟨0, 16 * k, A, c, rfl, by omega, rfl, rfl, HO.out, HXK.out⟩
      case round =>
        obtain ⟨i, n, A5, c5, rfl, hi, hn, rfl, ho5, hx5⟩ := hrel
        have HO5 := hide ho5
        have HX5 := hide hx5
        have HN := hide hn
        clear ho5 hx5 hn
        by_cases hli : i < 16
        · have hli' : (i : Int) < 16 := by omega
          have hix := index_nd (nd := nd) k i hli
          have hx256 : (if k = 0 then nd i else 0) < 256 := by
            split
            · exact HND.out i hli
            · omega
          have HXV := hide (show (if n < 16 then nd n else 0) = (if k = 0 then nd i else 0) by
            have := HN.out
            by_cases h : k = 0
            · subst h
              rw [if_pos (by omega), if_pos rfl]
              congr 1
              omega
            · rw [if_neg (by omega), if_neg h])
          generalize (if k = 0 then nd i else 0) = x at *
          have hm : (x : Int) % 256 = (x : Int) := by omega
          have hn1000 : n ≤ 1000 := by have := HN.out; omega
          go_upto_region 11 with fail
          have hx6 := (Ext.refl wr).alloc (.cells #[.int .u8 (x : Int)] 5)
          have HO6 := hide (hx6.own HO5.out)
          have HX6 := hide (HX5.out.trans hx6)
          have HRD := hide (by
            have := (Blk.new wr 5 #[.int .u8 (x : Int)]).reads
            exact (this : Reads (wr.alloc (.cells #[.int .u8 (x : Int)] 5)) (wr.alloc (.cells #[.int .u8 (x : Int)] 5)).heap.size 1 (some ⟨wr.heap.size, 0, none⟩) 1 [.int .u8 (x : Int)]))
          have HBB := hide (show w2.heap.size ≤ (wr.alloc (.cells #[.int .u8 (x : Int)] 5)).heap.size from HX6.out.size)
          clear hx6
          go_wp2_with (at_builtin; refine wpList_append_any _ rfl (.tmp 25) (.tmp 28) 29 rfl w2.heap.size 5 i0 _ 1 1 Tryz.underlying29 hi0 hz0 hz1 hz2 rfl (by omega) (.slice A5 n c5) n (bytesV (ndB nd n)) rfl HO6.out _ (some ⟨wr.heap.size, 0, none⟩) 1 1 [.int .u8 (x : Int)] rfl HRD.out (by intro u hu; simp only [List.mem_cons, List.not_mem_nil, or_false] at hu; subst hu; rfl) (by simp only [maxLen]; omega) (by omega) HBB.out ?_; intro A9 c9 w9 hown9 hg9 hadr9)
          go_roundw
          case rel =>
            refine ⟨i + 1, n + 1, A9, c9, by first | rfl | go_num, by omega, by have := HN.out; omega, rfl, ?_, Ext.grown HX6.out hg9 (fun j hj => (HO6.out.lt j hj).1)⟩
            have e : bytesV (ndB nd (n + 1)) = bytesV (ndB nd n) ++ [.int .u8 (x : Int)] := by rw [ndB_snoc, HXV.out, bytesV_append, byte_nat x hx256]
            rw [e]
            exact hown9
          case measure => simp [intOf]; omega
        · obtain rfl : i = 16 := by omega
          go_wp2_with fail
          go_roundw
          case rel =>
            have hN := HN.out
            have e : n = 16 * (k + 1) := by omega
            subst e
            exact ⟨k + 1, A5, c5, by first | rfl | go_num, by omega, rfl, HO5.out, HX5.out⟩
          case measure => simp [intOf]; omega
    · have hk4 : k = 4 := by omega
      have hn4 : bytesV (ndB nd (16 * k)) = bytesV (ndB nd 64) := by rw [hk4]
      have hm4 : 16 * k = 64 := by omega
      have HO4 := hide (show wr.ownsRow w2.heap.size 5 1 (.slice A 64 c) 64 (bytesV (ndB nd 64)) by have h := HO.out; rw [hn4, hm4] at h; exact h)
      have d4 : decide ((k : Int) < 4) = false := decide_eq_false (by omega)
      rw [hm4]
      clear HBK HO hk4 hn4 hm4 hlt
      go_upto_region 15 with fail
      go_loopw [32, 5] (PhRel nd hs w2.heap.size · · w2) (fun v _ _ => 4 - (intOf v).toNat)
      case atStart => exact ⟨0, 64, A, c, rfl, by omega, rfl, rfl, by simpa [hsB] using HO4.out, HXK.out⟩
      case round =>
        obtain ⟨k, n, A, c, rfl, hk, hn, rfl, ho, hxk⟩ := hrel
        have HO := hide ho
        have HXK := hide hxk
        have HBK := hide (HB2.out.ext hxk)
        have HN := hide hn
        clear ho hxk hn
        by_cases hlt : k < 4
        · have hlt' : (k : Int) < 4 := by omega
          have hk0 : (0 : Int) ≤ (k : Int) := by omega
          have HRD := hide (set_reads hlt HH.out HBK.out)
          have HBB := hide (show w2.heap.size ≤ wr.heap.size from HXK.out.size)
          have hn1000 : n ≤ 1000 := by have := HN.out; omega
          go_upto_region 17 with fail
          go_wp2_with (at_builtin; refine wpList_append_any _ rfl (.tmp 35) (.tmp 39) 29 rfl w2.heap.size 5 i0 _ 1 1 Tryz.underlying29 hi0 hz0 hz1 hz2 rfl (by omega) (.slice A n c) n (bytesV (ndB nd 64 ++ hsB hs k)) rfl HO.out _ (some ⟨B, k * 48 + 16, none⟩) 32 32 (bytesV ((List.range 32).map fun j => if k = 0 then UInt8.ofNat (hs j).toNat else 0)) rfl HRD.out (by intro u hu; obtain ⟨z, hz, rfl⟩ := List.mem_map.1 hu; rfl) (by simp only [maxLen]; omega) (by omega) HBB.out ?_; intro A9 c9 w9 hown9 hg9 hadr9)
          go_roundw
          case rel =>
            refine ⟨k + 1, n + 32, A9, c9, by first | rfl | go_num, by omega, by have := HN.out; omega, rfl, ?_, Ext.grown HXK.out hg9 (fun j hj => (HO.out.lt j hj).1)⟩
            rw [hsB_more, ← List.append_assoc, bytesV_append]
            exact hown9
          case measure => simp [intOf]; omega
        · obtain rfl : k = 4 := by omega
          go_wp2_with fail
          go_ret2
          have hN := HN.out
          have e : n = 192 := by omega
          subst e
          exact ⟨⟨A, c, rfl, own_mono HO.out HX2.out.size⟩, HX2.out.trans HXK.out⟩
end
end Go.Proofs.YthmojneobkaolaaGreatDoor

namespace Go.Proofs.YthmojneobkaolaaGreatDoor
open Go.RowKit
set_option linter.unusedVariables false

def EqBRel (w : World) (n : Nat) (i : Value) (wr : World) : Prop := ∃ k : Nat, k ≤ n ∧ i = .int .i64 k ∧ ∃ d, wr = w.drewN d
set_option maxRecDepth 100000 in
theorem equal_bytes (A : Option Addr) (n c B : Nat) (l : Bt) (A' : Option Addr) (c' B' : Nat) (w : World) (hx : Reads w B 1 A n (bytesV l)) (hy : Reads w B' 1 A' n (bytesV l)) (hn : n ≤ 100000) :
    Calls Tryz.prog 60 #[.slice A n c, .slice A' n c'] w fun e w' => e = .returned (.bool true) ∧ ∃ d, w' = w.drewN d := by
  have t0 : ((n : Int) != (n : Int)) = false := by simp
  have LX := hide (show l.length = n by have := hx.1; rw [bytesV_length] at this; omega)
  have HX := hide hx
  have HY := hide hy
  clear hx hy
  go_enter Tryz.func60, Tryz.ntmps60
  go_wp2_with fail
  go_loopw [13] (EqBRel w n) (fun i _ => n - (intOf i).toNat)
  case atStart => exact ⟨0, Nat.zero_le _, rfl, 0, rfl⟩
  case round =>
    obtain ⟨k, hk, rfl, d, rfl⟩ := hrel
    by_cases hlt : k < n
    · obtain ⟨b, off, rfl, -, h1⟩ := HX.out.at1 (by omega)
      obtain ⟨b', off', rfl, -, h2⟩ := HY.out.at1 (by omega)
      have g1 := h1 k hlt
      have g2 := h2 k hlt
      obtain ⟨z, hz⟩ : ∃ z : Int, (bytesV l)[k]'(by rw [bytesV_length, LX.out]; exact hlt) = .int .u8 z := ⟨_, by simp [bytesV]; rfl⟩
      rw [hz] at g1 g2
      have t1 : (z != z) = false := by simp
      clear h1 h2 hz
      go_upto_region 6 with fail
      go_quiet (fail)
      go_wp2_with fail
      go_roundw
      case rel => exact ⟨k + 1, by omega, by go_num, _, rfl⟩
      case measure => simp [intOf]; omega
    · obtain rfl : k = n := by omega
      go_wp2_with fail
      go_ret
      exact ⟨rfl, _, rfl⟩
end Go.Proofs.YthmojneobkaolaaGreatDoor

namespace Go.Proofs.YthmojneobkaolaaGreatDoor
open Go.RowKit
set_option linter.unusedVariables false

noncomputable abbrev for0 : Array Value := Tryz.zeroCells130
set_option maxRecDepth 10000 in
theorem for0_eq : for0 = (forL (fun _ => 0) fun _ => 0).toArray := rfl
/-- The first nodes alone. -/
def cutN (nd : Nat → Nat) (m : Nat) (o : Nat) : Nat := if o < m then nd o else 0
def cutH (hs : Nat → Int) (k : Nat) (j : Nat) : Int := if 0 < k then hs j else 0
theorem cut_for (nd : Nat → Nat) (hs : Nat → Int) (m k : Nat) (hm : 16 ≤ m) (hk : 0 < k) : forL (cutN nd m) (cutH hs k) = forL nd hs := by
  unfold forL
  apply List.map_congr_left
  intro o ho
  unfold forF cutN cutH
  rw [if_pos hk]
  by_cases h : o < 16
  · rw [if_pos h, if_pos h, if_pos (by omega)]
  · rw [if_neg h, if_neg h]
theorem cut_zero (nd : Nat → Nat) (hs : Nat → Int) : forL (cutN nd 0) (cutH hs 0) = forL (fun _ => 0) fun _ => 0 := by
  unfold forL
  apply List.map_congr_left
  intro o ho
  rfl
/-- A byte stored as a node. -/
theorem cut_store (nd : Nat → Nat) (hs : Nat → Int) (k i : Nat) (hk : k < 4) (hi : i < 16) : (forL (cutN nd (16 * k + i)) (cutH hs k)).toArray.setIfInBounds (k * 48 + i) (.int .i64 ((if 16 * k + i < 16 then nd (16 * k + i) else 0 : Nat) : Int)) = (forL (cutN nd (16 * k + i + 1)) (cutH hs k)).toArray := by
  apply Array.ext_getElem?
  intro o
  rw [Array.getElem?_setIfInBounds]
  by_cases ho : o < 192
  · by_cases he : k * 48 + i = o
    · subst he
      rw [if_pos rfl, if_pos (by simp [forL_len]; omega), List.getElem?_toArray, forL_at _ _ _ ho]
      congr 1
      unfold forF cutN
      by_cases h0 : k = 0
      · subst h0
        rw [if_pos (by omega), if_pos (by omega), if_pos (by omega)]
      · rw [if_neg (by omega), if_neg (by omega), if_neg (by omega), if_pos (by omega)]
        rfl
    · rw [if_neg he, List.getElem?_toArray, List.getElem?_toArray, forL_at _ _ _ ho, forL_at _ _ _ ho]
      congr 1
      unfold forF cutN
      by_cases h16 : o < 16
      · rw [if_pos h16, if_pos h16]
        by_cases h0 : k = 0
        · subst h0
          by_cases h1 : o < i
          · rw [if_pos (by omega), if_pos (by omega)]
          · rw [if_neg (by omega), if_neg (by omega)]
        · rw [if_pos (by omega), if_pos (by omega)]
      · rw [if_neg h16, if_neg h16]
  · have h1 : (forL (cutN nd (16 * k + i)) (cutH hs k)).length = 192 := forL_len _ _
    have h2 : (forL (cutN nd (16 * k + i + 1)) (cutH hs k)).length = 192 := forL_len _ _
    rw [if_neg (by omega), List.getElem?_toArray, List.getElem?_toArray, List.getElem?_eq_none (by omega), List.getElem?_eq_none (by omega)]
/-- A tree's set copied. -/
theorem cut_copy (nd : Nat → Nat) (hs : Nat → Int) (m k : Nat) (hk : k < 4) (hh : ∀ j, j < 32 → 0 ≤ hs j ∧ hs j < 256) : spl (forL (cutN nd m) (cutH hs k)) (k * 48 + 16) (bytesV ((List.range 32).map fun j => if k = 0 then UInt8.ofNat (hs j).toNat else 0)) = forL (cutN nd m) (cutH hs (k + 1)) := by
  have h1 : (forL (cutN nd m) (cutH hs k)).length = 192 := forL_len _ _
  have hb : (bytesV ((List.range 32).map fun j => if k = 0 then UInt8.ofNat (hs j).toNat else 0)).length = 32 := by rw [bytesV_length, List.length_map, List.length_range]
  apply List.ext_getElem?
  intro o
  unfold spl
  by_cases ho : o < 192
  · rw [forL_at _ _ _ ho, List.getElem?_append, List.length_take, h1, Nat.min_eq_left (by omega)]
    by_cases ha : o < k * 48 + 16
    · rw [if_pos ha, List.getElem?_take, if_pos ha, forL_at _ _ _ ho]
      congr 1
      unfold forF cutH
      by_cases h16 : o < 16
      · rw [if_pos h16, if_pos h16]
      · rw [if_neg h16, if_neg h16]
        by_cases h48 : o < 48
        · rw [if_pos h48, if_pos h48, if_pos (by omega), if_pos (by omega)]
        · rw [if_neg h48, if_neg h48]
    · rw [if_neg ha, List.getElem?_append, hb]
      by_cases hc : o - (k * 48 + 16) < 32
      · rw [if_pos hc]
        simp only [bytesV, List.map_map, List.getElem?_map, List.getElem?_range hc, Option.map_some, Function.comp]
        congr 1
        by_cases h0 : k = 0
        · subst h0
          obtain ⟨h1, h2⟩ := hh (o - 16) (by omega)
          have e1 : forF (cutN nd m) (cutH hs (0 + 1)) o = .int .u8 (hs (o - 16)) := by
            unfold forF
            rw [if_neg (by omega), if_pos (by omega)]
            unfold cutH
            rw [if_pos (by omega)]
          rw [e1, if_pos rfl, show o - (0 * 48 + 16) = o - 16 by omega]
          congr 1
          simp
          omega
        · have e1 : forF (cutN nd m) (cutH hs (k + 1)) o = .int .u8 0 := by
            unfold forF
            rw [if_neg (by omega), if_neg (by omega), if_neg (by omega)]
          rw [e1, if_neg h0]
          rfl
      · rw [if_neg hc, List.getElem?_drop, show k * 48 + 16 + 32 + (o - (k * 48 + 16) - 32) = o by omega, forL_at _ _ _ ho]
        congr 1
        unfold forF cutH
        simp only [show ¬ o < 16 by omega, show ¬ o < 48 by omega, if_false]
  · rw [List.getElem?_eq_none (by simp only [List.length_append, List.length_take, List.length_drop, h1, hb]; omega), List.getElem?_eq_none (by rw [forL_len]; omega)]
/-- What the bytes of a forest are. -/
theorem pack_node (nd : Nat → Nat) (hs : Nat → Int) (m : Nat) (hm : m < 64) (hnd : ∀ i, i < 16 → nd i < 256) : (bytesV (packF nd hs))[m]? = some (.int .u8 ((if m < 16 then nd m else 0 : Nat) : Int)) := by
  unfold packF
  rw [bytesV_append, List.getElem?_append_left (by rw [bytesV_length, ndB_len]; exact hm)]
  simp only [bytesV, ndB, List.map_map, List.getElem?_map, List.getElem?_range hm, Option.map_some, Function.comp]
  congr 2
  by_cases h : m < 16
  · have := hnd m h
    simp [h]
    omega
  · simp [h]
theorem pack_set (nd : Nat → Nat) (hs : Nat → Int) (k j : Nat) (hk : k < 4) (hj : j < 32) : (bytesV (packF nd hs))[64 + 32 * k + j]? = (bytesV ((List.range 32).map fun j => if k = 0 then UInt8.ofNat (hs j).toNat else 0))[j]? := by
  unfold packF
  rw [bytesV_append, List.getElem?_append_right (by rw [bytesV_length, ndB_len]; omega), bytesV_length, ndB_len, show 64 + 32 * k + j - 64 = 32 * k + j by omega]
  simp only [bytesV, hsB, List.map_map, List.getElem?_map, List.getElem?_range hj, List.getElem?_range (show 32 * k + j < 32 * 4 by omega), Option.map_some, Function.comp]
  by_cases h0 : k = 0
  · subst h0
    rw [if_pos (by omega), if_pos rfl, show 32 * 0 + j = j by omega]
  · rw [if_neg (by omega), if_neg h0]
theorem bt_tail (g o n c k : Nat) (hk : k < c) (hn : n ≤ c) (hkn : k ≤ n) (z : Int) (hz : z = (k : Int)) (W : World) : (Instr.slice 29 (.slice (some ⟨g, o, none⟩) n c) (some (.int .i64 z)) none none).run Tryz.prog W = .ok (.slice (some ⟨g, o + k, none⟩) (n - k) (c - k)) W := by
  subst hz
  obtain ⟨i0, hi0, hz0, hz1, hz2⟩ := info_parts byte_info
  have he : Tryz.prog.elem 29 = 5 := by kernel_rfl
  rw [run_slice_l W 29 (some ⟨g, o, none⟩) n c (by kernel_rfl) .i64 (k : Int) (by omega) (by omega), he]
  have hne : ¬ c = k := by omega
  simp [sizeOf, typeInfo, hi0, hz1, sliced, Result.andThen, hne, Addr.add]
theorem bt_cut (g o n c k m : Nat) (hk : k < c) (hn : n ≤ c) (hkm : k ≤ m) (hmn : m ≤ n) (z y : Int) (hz : z = (k : Int)) (hy : y = (m : Int)) (W : World) : (Instr.slice 29 (.slice (some ⟨g, o, none⟩) n c) (some (.int .i64 z)) (some (.int .i64 y)) none).run Tryz.prog W = .ok (.slice (some ⟨g, o + k, none⟩) (m - k) (c - k)) W := by
  subst hz hy
  obtain ⟨i0, hi0, hz0, hz1, hz2⟩ := info_parts byte_info
  have he : Tryz.prog.elem 29 = 5 := by kernel_rfl
  rw [run_slice_lh W 29 (some ⟨g, o, none⟩) n c (by kernel_rfl) .i64 .i64 (k : Int) (m : Int) (by omega) (by omega) (by omega), he]
  have hne : ¬ c = k := by omega
  simp [sizeOf, typeInfo, hi0, hz1, sliced, Result.andThen, hne, Addr.add]
end Go.Proofs.YthmojneobkaolaaGreatDoor

namespace Go.Proofs.YthmojneobkaolaaGreatDoor
open Go.RowKit
set_option linter.unusedVariables false

def UkRel (nd : Nat → Nat) (hs : Nat → Int) (g : Nat) (w0 : World) (v : Value) (wr : World) : Prop := ∃ k : Nat, v = .int .i64 (k : Int) ∧ k ≤ 4 ∧ Blk wr (g + 1) 130 (forL (cutN nd (16 * k)) (cutH hs k)).toArray ∧ Blk wr g 130 for0 ∧ Ext w0 wr
def UiRel (nd : Nat → Nat) (hs : Nat → Int) (g : Nat) (w0 : World) (k : Nat) (v : Value) (wr : World) : Prop := ∃ i m : Nat, v = .int .i64 (i : Int) ∧ i ≤ 16 ∧ m = 16 * k + i ∧ Blk wr (g + 1) 130 (forL (cutN nd m) (cutH hs k)).toArray ∧ Blk wr g 130 for0 ∧ Ext w0 wr
section
variable {nd : Nat → Nat} {hs : Nat → Int} {w : World}
theorem mul16 (k : Nat) (hk : k ≤ 100) : IntKind.i64.wrap (16 * (k : Int)) = ((16 * k : Nat) : Int) := by
  rw [show (16 * (k : Int)) = ((16 * k : Nat) : Int) by omega]
  exact i64_wr _ (by omega)
set_option maxHeartbeats 8000000 in
set_option maxRecDepth 100000 in
theorem snapunpack_ok (h0 : nd 0 ≠ 0) (hnd : ∀ i, i < 16 → nd i < 256) (hh : ∀ j, j < 32 → 0 ≤ hs j ∧ hs j < 256) (sb so c : Nat) (hc : 192 ≤ c) (w : World) (hr : Reads w w.heap.size 1 (some ⟨sb, so, none⟩) 192 (bytesV (packF nd hs))) : Calls Tryz.prog 125 #[.slice (some ⟨sb, so, none⟩) 192 c] w fun e w' => e = .returned (.tuple #[.agg (forL nd hs).toArray, .int .i64 0]) ∧ Ext w w' := by
  have hsz : (w.alloc (.cells for0 130)).heap.size = w.heap.size + 1 := by simp
  have HX := hide (((Ext.refl w).alloc (.cells for0 130)).alloc (.cells for0 130))
  have HB0 := hide ((Blk.new w 130 for0).alloc (.cells for0 130))
  have hb1 := Blk.new (w.alloc (.cells for0 130)) 130 for0
  rw [hsz] at hb1
  have HB1 := hide hb1
  have HR := hide hr
  have HND := hide hnd
  have HH := hide hh
  have HC := hide hc
  have HPK := hide (snappack_ok (nd := nd) (hs := hs) h0 hnd hh)
  have HEQ := hide (equal_bytes)
  clear hb1 hsz hr hnd hh hc
  go_enter Tryz.func125, Tryz.ntmps125
  go_upto_region 5 with fail
  obtain ⟨g, hg⟩ : ∃ g, w.heap.size = g := ⟨_, rfl⟩
  have hg1 : w.heap.size ≤ g := by omega
  have HG := hide hg1
  rw [hg] at HB0 HB1 ⊢
  clear hg hg1
  generalize (w.alloc _).alloc _ = W at *
  go_loopw [13] (UkRel nd hs g w · ·) (fun v _ => 4 - (intOf v).toNat)
  case atStart =>
    refine ⟨0, rfl, by omega, ?_, HB0.out, HX.out⟩
    rw [Nat.mul_zero, cut_zero]
    exact HB1.out
  case round =>
    obtain ⟨k, rfl, hk, hbk, hbg, hxk⟩ := hrel
    have HBK := hide hbk
    have HBG := hide hbg
    have HXK := hide hxk
    clear hbk hbg hxk
    by_cases hlt : k < 4
    · have hlt' : (k : Int) < 4 := by omega
      have hk0 : (0 : Int) ≤ (k : Int) := by omega
      have hm16 := mul16 k (by omega)
      go_upto_region 8 with fail
      go_loopw [16] (UiRel nd hs g w k · ·) (fun v _ => 16 - (intOf v).toNat)
      case atStart => exact ⟨0, 16 * k, rfl, by omega, rfl, HBK.out, HBG.out, HXK.out⟩
      case round =>
        obtain ⟨i, m, rfl, hi, hm, hbk5, hbg5, hx5⟩ := hrel
        have HBK5 := hide hbk5
        have HBG5 := hide hbg5
        have HX5 := hide hx5
        have HM := hide hm
        clear hbk5 hbg5 hx5 hm
        by_cases hli : i < 16
        · have hli' : (i : Int) < 16 := by omega
          have hi0 : (0 : Int) ≤ (i : Int) := by omega
          have hadd : IntKind.i64.wrap (16 * (k : Int) + (i : Int)) = (m : Int) := by
            have := HM.out
            rw [show (16 * (k : Int) + (i : Int)) = (m : Int) by omega]
            exact i64_wr m (by omega)
          go_upto_region 10 with fail
          have hm64 : m < 64 := by have := HM.out; omega
          have hm0 : (0 : Int) ≤ (m : Int) := by omega
          have hm192 : (m : Int) < 192 := by omega
          obtain ⟨x, hx⟩ : ∃ x, (if m < 16 then nd m else 0) = x := ⟨_, rfl⟩
          have hx256 : x < 256 := by
            rw [← hx]
            split
            · exact HND.out m (by assumption)
            · omega
          have HXV := hide hx
          have c0 : wr.drew.cell? ⟨sb, so + m, none⟩ = some (.int .u8 (x : Int)) := by
            obtain ⟨b', o', he, hlt, hcell⟩ := (HX5.out.reads HR.out (Nat.le_refl _)).at1 (by omega)
            injection he with he
            injection he with he1 he2
            subst he1 he2
            show wr.cell? _ = _
            rw [hcell m (by omega), ← List.getElem?_eq_some_iff.2 ⟨_, rfl⟩, pack_node nd hs m hm64 HND.out, hx]
          clear hx
          have hwx : IntKind.i64.wrap (x : Int) = (x : Int) := i64_wr x (by omega)
          refine wp_region_pop_take (S := fun (w' : World) => w'.cell? ⟨sb, so + m, none⟩ = some (.int .u8 (x : Int))) 13 rfl rfl (by kernel_rfl) (by kernel_rfl) (by exact c0) (fun hS0 => ?_)
          simp only [List.take_succ_cons, List.take_zero]
          refine takeH_op (i := 0) (d := some 19) (v := ?v1001) hS0 rfl (by kernel_rfl) (by kernel_rfl) (by kernel_rfl) (fun _ _ _ h => h) (fun oi ho => ?hy1001) ?rest1001
          case hy1001 => (simp only [List.getElem?_toArray, List.getElem?_cons_zero, Option.some.injEq] at ho; subst ho; refine Or.inl ⟨by rfl, fun w' _ => ?_⟩; go_simp; try (with_reducible rfl))
          simp only [Act.put, List.setIfInBounds_toArray, List.set_cons_zero, List.set_cons_succ]
          refine takeH_op (i := 1) (d := some 20) (v := ?v1002) hS0 rfl (by kernel_rfl) (by kernel_rfl) (by kernel_rfl) (fun _ _ _ h => h) (fun oi ho => ?hy1002) ?rest1002
          case hy1002 => (simp only [List.getElem?_toArray, List.getElem?_cons_succ, List.getElem?_cons_zero, Option.some.injEq] at ho; subst ho; refine Or.inl ⟨by rfl, fun w' _ => ?_⟩; go_simp; try (with_reducible rfl))
          simp only [Act.put, List.setIfInBounds_toArray, List.set_cons_zero, List.set_cons_succ]
          refine takeH_op (i := 2) (d := some 21) (v := ?v1003) hS0 rfl (by kernel_rfl) (by kernel_rfl) (by kernel_rfl) (fun _ _ _ h => h) (fun oi ho => ?hy1003) ?rest1003
          case hy1003 => (simp only [List.getElem?_toArray, List.getElem?_cons_succ, List.getElem?_cons_zero, Option.some.injEq] at ho; subst ho; refine Or.inl ⟨by rfl, fun w' _ => ?_⟩; go_simp; try (with_reducible rfl))
          simp only [Act.put, List.setIfInBounds_toArray, List.set_cons_zero, List.set_cons_succ]
          refine takeH_op (i := 3) (d := some 22) (v := ?v1004) hS0 rfl (by kernel_rfl) (by kernel_rfl) (by kernel_rfl) (fun _ _ _ h => h) (fun oi ho => ?hy1004) ?rest1004
          case hy1004 => (simp only [List.getElem?_toArray, List.getElem?_cons_succ, List.getElem?_cons_zero, Option.some.injEq] at ho; subst ho; refine Or.inl ⟨by rfl, fun w' _ => ?_⟩; go_simp; try (with_reducible rfl))
          simp only [Act.put, List.setIfInBounds_toArray, List.set_cons_zero, List.set_cons_succ]
          refine takeH_op (i := 4) (d := some 23) (v := ?v1005) hS0 rfl (by kernel_rfl) (by kernel_rfl) (by kernel_rfl) (fun _ _ _ h => h) (fun oi ho => ?hy1005) ?rest1005
          case hy1005 => (simp only [List.getElem?_toArray, List.getElem?_cons_succ, List.getElem?_cons_zero, Option.some.injEq] at ho; subst ho; refine Or.inl ⟨by rfl, fun w' _ => ?_⟩; go_simp; try (with_reducible rfl))
          simp only [Act.put, List.setIfInBounds_toArray, List.set_cons_zero, List.set_cons_succ]
          refine takeH_op (i := 5) (d := some 24) (v := ?v1006) hS0 rfl (by kernel_rfl) (by kernel_rfl) (by kernel_rfl) (fun _ _ _ h => h) (fun oi ho => ?hy1006) ?rest1006
          case hy1006 => (simp only [List.getElem?_toArray, List.getElem?_cons_succ, List.getElem?_cons_zero, Option.some.injEq] at ho; subst ho; refine Or.inl ⟨by rfl, fun w' _ => ?_⟩; go_simp; try (with_reducible rfl))
          simp only [Act.put, List.setIfInBounds_toArray, List.set_cons_zero, List.set_cons_succ]
          refine takeH_op (i := 6) (d := some 25) (v := ?v1007) hS0 rfl (by kernel_rfl) (by kernel_rfl) (by kernel_rfl) (fun _ _ _ h => h) (fun oi ho => ?hy1007) ?rest1007
          case hy1007 => (simp only [List.getElem?_toArray, List.getElem?_cons_succ, List.getElem?_cons_zero, Option.some.injEq] at ho; subst ho; refine Or.inl ⟨by rfl, fun w' _ => ?_⟩; go_simp; try (with_reducible rfl))
          simp only [Act.put, List.setIfInBounds_toArray, List.set_cons_zero, List.set_cons_succ]
          refine takeH_op (i := 7) (d := some 26) (v := ?v1008) hS0 rfl (by kernel_rfl) (by kernel_rfl) (by kernel_rfl) (fun _ _ _ h => h) (fun oi ho => ?hy1008) ?rest1008
          case hy1008 => (simp only [List.getElem?_toArray, List.getElem?_cons_succ, List.getElem?_cons_zero, Option.some.injEq] at ho; subst ho; refine Or.inl ⟨by rfl, fun w' _ => ?_⟩; go_simp; try (with_reducible rfl))
          simp only [Act.put, List.setIfInBounds_toArray, List.set_cons_zero, List.set_cons_succ]
          refine takeH_op (i := 8) (d := some 27) (v := ?v1009) hS0 rfl (by kernel_rfl) (by kernel_rfl) (by kernel_rfl) (fun _ _ _ h => h) (fun oi ho => ?hy1009) ?rest1009
          case hy1009 => (simp only [List.getElem?_toArray, List.getElem?_cons_succ, List.getElem?_cons_zero, Option.some.injEq] at ho; subst ho; refine Or.inl ⟨by rfl, fun w' hS' => ?_⟩; skip; go_simp; try (with_reducible rfl))
          simp only [Act.put, List.setIfInBounds_toArray, List.set_cons_zero, List.set_cons_succ]
          refine takeH_op (i := 10) (d := some 29) (v := ?v1010) hS0 rfl (by kernel_rfl) (by kernel_rfl) (by kernel_rfl) (fun _ _ _ h => h) (fun oi ho => ?hy1010) ?rest1010
          case hy1010 => (simp only [List.getElem?_toArray, List.getElem?_cons_succ, List.getElem?_cons_zero, Option.some.injEq] at ho; subst ho; refine Or.inl ⟨by rfl, fun w' _ => ?_⟩; go_simp; try (with_reducible rfl))
          simp only [Act.put, List.setIfInBounds_toArray, List.set_cons_zero, List.set_cons_succ]
          refine takeH_op (i := 11) (d := some 30) (v := ?v1011) hS0 rfl (by kernel_rfl) (by kernel_rfl) (by kernel_rfl) (fun _ _ _ h => h) (fun oi ho => ?hy1011) ?rest1011
          case hy1011 => (simp only [List.getElem?_toArray, List.getElem?_cons_succ, List.getElem?_cons_zero, Option.some.injEq] at ho; subst ho; refine Or.inl ⟨by rfl, fun w' _ => ?_⟩; go_simp; try (with_reducible rfl))
          simp only [Act.put, List.setIfInBounds_toArray, List.set_cons_zero, List.set_cons_succ]
          refine readyH (rs := [9]) (by kernel_rfl) (by simp) ?_
          refine consH_op (by decide) (fun o ho K hK => ?_) ?_
          simp only [List.getElem?_toArray, List.getElem?_cons_succ, List.getElem?_cons_zero, Option.some.injEq] at ho
          subst ho
          go_simp
          have hS1012 : (fun (w' : World) => w'.cell? ⟨sb, so + m, none⟩ = some (.int .u8 (x : Int))) (wr.drew) := by exact hS0
          refine hK _ _ hS1012 ?_
          clear hK K
          refine takeH_op (i := 12) (d := some 31) (v := ?v1013) hS1012 rfl (by kernel_rfl) (by kernel_rfl) (by kernel_rfl) (fun _ _ _ h => h) (fun oi ho => ?hy1013) ?rest1013
          case hy1013 => (simp only [List.getElem?_toArray, List.getElem?_cons_succ, List.getElem?_cons_zero, Option.some.injEq] at ho; subst ho; refine Or.inl ⟨by rfl, fun w' _ => ?_⟩; go_simp; try (with_reducible rfl))
          simp only [Act.put, List.setIfInBounds_toArray, List.set_cons_zero, List.set_cons_succ]
          refine wpAnyH_done (by kernel_rfl) ?_ _
          refine pop_last rfl ?_
          rotate_left
          exact allH_nil
          have f1 : wr.drew.frozen? ⟨g + 1, k * 48 + i, none⟩ = false := HBK5.out.drew.frozen _
          have c1 : wr.drew.cell? ⟨g + 1, k * 48 + i, none⟩ = some (.int .i64 ((if k = 0 then cutN nd m i else 0 : Nat) : Int)) := by rw [HBK5.out.drew.cell, List.getElem?_toArray, nodes_at k i hlt hli]
          have HBN := hide (HBK5.out.drew.set_ (k * 48 + i) (.int .i64 (x : Int)))
          have HBG6 := hide (HBG5.out.drew.far (show g ≠ g + 1 by omega) (p := ⟨g + 1, k * 48 + i, none⟩) (.int .i64 (x : Int)))
          have HX6 := hide (HX5.out.drew.setCell (p := ⟨g + 1, k * 48 + i, none⟩) (by show w.heap.size ≤ g + 1; have := HG.out; omega) (.int .i64 (x : Int)))
          go_wp2_with fail
          go_roundw
          case rel =>
            have hM := HM.out
            subst hM
            refine ⟨i + 1, 16 * k + i + 1, by first | rfl | go_num, by omega, by omega, ?_, HBG6.out, HX6.out⟩
            rw [← cut_store nd hs k i hlt hli, HXV.out]
            exact HBN.out
          case measure => simp [intOf]; omega
        · obtain rfl : i = 16 := by omega
          obtain ⟨p, hp⟩ : ∃ p : Nat, p = 64 + 32 * k := ⟨_, rfl⟩
          have hp192 : p < 192 := by omega
          have hp160 : p ≤ 160 := by omega
          obtain ⟨q, hq⟩ : ∃ q : Nat, q = 32 * k := ⟨_, rfl⟩
          have hw0 : IntKind.i64.wrap (32 * (k : Int)) = (q : Int) := by
            rw [show 32 * (k : Int) = (q : Int) by omega]
            exact i64_wr q (by omega)
          have hw1 : IntKind.i64.wrap (64 + (q : Int)) = (p : Int) := by
            rw [show 64 + (q : Int) = (p : Int) by omega]
            exact i64_wr p (by omega)
          clear hq
          have hp0 : (0 : Int) ≤ (p : Int) := by omega
          have hp1 : (p : Int) ≤ 192 := by omega
          have hcne : ¬ c = p := by have := HC.out; omega
          have hsz1 : (Tryz.prog.info? 5).map (·.size) = some 1 := by kernel_rfl
          have hcp : ∀ ty, (Builtin.copy_ #[29, 29] ty #[.slice (some ⟨g + 1, k * 48 + 16, none⟩) 32 32, .slice (some ⟨sb, so + p, none⟩) (192 - p) (c - p)]).run Tryz.prog wr.drew = .ok (goInt (Nat.min (192 - p) 32)) (wr.drew.setRow (g + 1) (forL (cutN nd m) (cutH hs (k + 1))).toArray) := fun ty => by
            have hb32 : (bytesV ((List.range 32).map fun j => if k = 0 then UInt8.ofNat (hs j).toNat else 0)).length = 32 := by rw [bytesV_length, List.length_map, List.length_range]
            have := run_copy_rowN (P := Tryz.prog) wr.drew 29 29 ty 5 1 (g + 1) (k * 48 + 16) 32 32 ⟨sb, so + p, none⟩ (192 - p) (c - p) (forL (cutN nd m) (cutH hs k)).toArray 130 (bytesV ((List.range 32).map fun j => if k = 0 then UInt8.ofNat (hs j).toNat else 0)) Tryz.underlying29 hsz1 HBK5.out.drew (by rw [hb32, Nat.mul_one]; exact (Nat.min_eq_right (by omega)).symm) (fun j v hj => by
              have hj32 : j < 32 := by rw [← hb32]; exact (List.getElem?_eq_some_iff.1 hj).1
              obtain ⟨b', o', he, hlt', hcell⟩ := (HX5.out.reads HR.out (Nat.le_refl _)).at1 (by omega)
              injection he with he
              injection he with he1 he2
              subst he1 he2
              rw [add_lit]
              show wr.cell? _ = _
              rw [show so + p + j = so + (64 + 32 * k + j) by omega, hcell (64 + 32 * k + j) (by omega), ← List.getElem?_eq_some_iff.2 ⟨_, rfl⟩, pack_set nd hs k j hlt hj32]
              exact hj) (by rw [hb32, List.size_toArray, forL_len]; omega) (fun v hv => by obtain ⟨z, hz, rfl⟩ := List.mem_map.1 hv; rfl)
            rw [cut_copy nd hs m k hlt HH.out] at this
            exact this
          have HP := hide hp
          clear hp
          go_upto_region 12 with fail
          refine wp_region_pop_take (S := fun (w' : World) => True) 9 rfl rfl (by kernel_rfl) (by kernel_rfl) (by trivial) (fun hS0 => ?_)
          simp only [List.take_succ_cons, List.take_zero]
          refine takeH_op (i := 0) (d := some 33) (v := ?v2001) hS0 rfl (by kernel_rfl) (by kernel_rfl) (by kernel_rfl) (fun _ _ _ h => h) (fun oi ho => ?hy2001) ?rest2001
          case hy2001 => (simp only [List.getElem?_toArray, List.getElem?_cons_zero, Option.some.injEq] at ho; subst ho; refine Or.inl ⟨by rfl, fun w' _ => ?_⟩; go_simp; try (with_reducible rfl))
          simp only [Act.put, List.setIfInBounds_toArray, List.set_cons_zero, List.set_cons_succ]
          refine takeH_op (i := 1) (d := some 34) (v := ?v2002) hS0 rfl (by kernel_rfl) (by kernel_rfl) (by kernel_rfl) (fun _ _ _ h => h) (fun oi ho => ?hy2002) ?rest2002
          case hy2002 => (simp only [List.getElem?_toArray, List.getElem?_cons_succ, List.getElem?_cons_zero, Option.some.injEq] at ho; subst ho; refine Or.inl ⟨by rfl, fun w' _ => ?_⟩; go_simp; try (with_reducible rfl))
          simp only [Act.put, List.setIfInBounds_toArray, List.set_cons_zero, List.set_cons_succ]
          refine takeH_op (i := 2) (d := some 35) (v := ?v2003) hS0 rfl (by kernel_rfl) (by kernel_rfl) (by kernel_rfl) (fun _ _ _ h => h) (fun oi ho => ?hy2003) ?rest2003
          case hy2003 => (simp only [List.getElem?_toArray, List.getElem?_cons_succ, List.getElem?_cons_zero, Option.some.injEq] at ho; subst ho; refine Or.inl ⟨by rfl, fun w' _ => ?_⟩; go_simp; try (with_reducible rfl))
          simp only [Act.put, List.setIfInBounds_toArray, List.set_cons_zero, List.set_cons_succ]
          refine takeH_op (i := 3) (d := some 36) (v := ?v2004) hS0 rfl (by kernel_rfl) (by kernel_rfl) (by kernel_rfl) (fun _ _ _ h => h) (fun oi ho => ?hy2004) ?rest2004
          case hy2004 => (simp only [List.getElem?_toArray, List.getElem?_cons_succ, List.getElem?_cons_zero, Option.some.injEq] at ho; subst ho; refine Or.inl ⟨by rfl, fun w' _ => ?_⟩; go_simp; try (with_reducible rfl))
          simp only [Act.put, List.setIfInBounds_toArray, List.set_cons_zero, List.set_cons_succ]
          refine takeH_op (i := 4) (d := some 37) (v := ?v2005) hS0 rfl (by kernel_rfl) (by kernel_rfl) (by kernel_rfl) (fun _ _ _ h => h) (fun oi ho => ?hy2005) ?rest2005
          case hy2005 => (simp only [List.getElem?_toArray, List.getElem?_cons_succ, List.getElem?_cons_zero, Option.some.injEq] at ho; subst ho; refine Or.inl ⟨by rfl, fun w' _ => ?_⟩; go_simp; try (with_reducible rfl))
          simp only [Act.put, List.setIfInBounds_toArray, List.set_cons_zero, List.set_cons_succ]
          refine takeH_op (i := 5) (d := some 38) (v := ?v2006) hS0 rfl (by kernel_rfl) (by kernel_rfl) (by kernel_rfl) (fun _ _ _ h => h) (fun oi ho => ?hy2006) ?rest2006
          case hy2006 => (simp only [List.getElem?_toArray, List.getElem?_cons_succ, List.getElem?_cons_zero, Option.some.injEq] at ho; subst ho; refine Or.inl ⟨by rfl, fun w' _ => ?_⟩; go_simp; try (with_reducible rfl))
          simp only [Act.put, List.setIfInBounds_toArray, List.set_cons_zero, List.set_cons_succ]
          refine takeH_op (i := 6) (d := some 39) (v := ?v2007) hS0 rfl (by kernel_rfl) (by kernel_rfl) (by kernel_rfl) (fun _ _ _ h => h) (fun oi ho => ?hy2007) ?rest2007
          case hy2007 => (simp only [List.getElem?_toArray, List.getElem?_cons_succ, List.getElem?_cons_zero, Option.some.injEq] at ho; subst ho; refine Or.inl ⟨by rfl, fun w' _ => ?_⟩; go_simp; try (with_reducible rfl))
          simp only [Act.put, List.setIfInBounds_toArray, List.set_cons_zero, List.set_cons_succ]
          refine takeH_op (i := 7) (d := some 40) (v := ?v2008) hS0 rfl (by kernel_rfl) (by kernel_rfl) (by kernel_rfl) (fun _ _ _ h => h) (fun oi ho => ?hy2008) ?rest2008
          case hy2008 => (simp only [List.getElem?_toArray, List.getElem?_cons_succ, List.getElem?_cons_zero, Option.some.injEq] at ho; subst ho; refine Or.inl ⟨by rfl, fun w' _ => ?_⟩; go_simp; try (with_reducible rfl))
          simp only [Act.put, List.setIfInBounds_toArray, List.set_cons_zero, List.set_cons_succ]
          refine takeH_op (i := 8) (d := some 41) (v := ?v2009) hS0 rfl (by kernel_rfl) (by kernel_rfl) (by kernel_rfl) (fun _ _ _ h => h) (fun oi ho => ?hy2009) ?rest2009
          case hy2009 => (simp only [List.getElem?_toArray, List.getElem?_cons_succ, List.getElem?_cons_zero, Option.some.injEq] at ho; subst ho; refine Or.inl ⟨by rfl, fun w' _ => ?_⟩; go_simp; try (with_reducible rfl))
          simp only [Act.put, List.setIfInBounds_toArray, List.set_cons_zero, List.set_cons_succ]
          refine wpAnyH_done (by kernel_rfl) ?_ _
          refine pop_last rfl ?_
          rotate_left
          have HBN := hide (setRow_blk HBK5.out.drew (forL (cutN nd m) (cutH hs (k + 1))).toArray)
          have hg7 : wr.grownBy (wr.drew.setRow (g + 1) (forL (cutN nd m) (cutH hs (k + 1))).toArray) (some (g + 1)) := setRow_grown (⟨rfl, rfl, rfl, Nat.le_refl _, fun _ _ _ => rfl⟩ : wr.grownBy wr.drew (some (g + 1))) _
          have HBG7 := hide (HBG5.out.grown hg7 (by simp))
          have HX7 := hide (HX5.out.grown hg7 (fun j hj => by injection hj with hj; subst hj; have := HG.out; omega))
          clear hg7
          go_wp2_with (at_builtin; refine wpList_copy_eqN _ rfl _ _ 29 29 rfl _ _ rfl rfl (hcp _) ?_)
          go_roundw
          case rel =>
            have hM : m = 16 * (k + 1) := by have := HM.out; omega
            subst hM
            exact ⟨k + 1, by first | rfl | go_num, by omega, HBN.out, HBG7.out, HX7.out⟩
          case measure => simp [intOf]; omega
    · have hk4 : k = 4 := by omega
      have HFO := hide (show Blk wr (g + 1) 130 (forL nd hs).toArray by rw [← cut_for nd hs (16 * k) k (by omega) (by omega)]; exact HBK.out)
      have d4 : decide ((k : Int) < 4) = false := decide_eq_false (by omega)
      clear HBK hk4
      have HLF := hide HFO.out.all
      have HFS := hide (for_size nd hs)
      go_upto_region 15 with ((with_reducible refine wpList_load_mid rfl 130 (.tmp 4) rfl (g + 1) 0 rfl (forL nd hs) _ HLF.out Tryz.underlying130 rfl HFS.out ?_))
      refine (HPK.out _).mono ?_
      rintro e w7 ⟨⟨A7, c7, rfl, ho7⟩, hx7⟩
      have HR7 := hide (Reads.of_own ho7)
      have HFO7 := hide (HFO.out.ext hx7)
      have HBG7 := hide (HBG.out.ext hx7)
      have HX7 := hide (HXK.out.trans hx7)
      have HS7 := hide ((HXK.out.trans hx7).reads HR.out (Nat.le_refl _))
      clear ho7 hx7 HPK HFO HBG HXK HLF HX HB0 HB1
      go_upto_region 15 with fail
      go_wp2_with fail
      refine (HEQ.out _ _ _ _ (packF nd hs) _ _ _ _ HR7.out HS7.out (by omega)).mono ?_
      rintro e w8 ⟨rfl, d, rfl⟩
      have HFO8 := hide (HFO7.out.drewN d)
      have HBG8 := hide (HBG7.out.drewN d)
      have HX8 := hide (HX7.out.drewN d)
      clear HFO7 HBG7 HX7 HEQ HR7 HS7
      generalize w7.drewN d = w8 at *
      have HLF := hide HFO8.out.all
      have HT := hide (HBG8.out.there_ 0 192 (Nat.le_refl _))
      have HL := hide (show (forL nd hs).length = 192 from forL_len nd hs)
      go_wp2_with (first | ((with_reducible refine wpList_load_mid rfl 130 (.tmp 4) rfl (g + 1) 0 rfl (forL nd hs) _ HLF.out Tryz.underlying130 rfl HFS.out ?_)) | ((with_reducible refine wpList_store_mid rfl 130 (.tmp 2) (.tmp 58) rfl g 0 (forL nd hs).toArray rfl ?_ ?_ ?_ (forL_one nd hs) ?_); (exact rfl); (rw [List.size_toArray, HL.out]; exact HT.out); (rw [List.size_toArray]; exact HFS.out)))
      exact ret_cell_tmp Tryz.f125 2 3 rfl rfl rfl rfl ((HBG8.out.setAll (forL nd hs) (by rw [HL.out]; rfl)).all) Tryz.underlying130 rfl HFS.out ⟨rfl, HX8.out.setCells HG.out 0 _⟩
end
end Go.Proofs.YthmojneobkaolaaGreatDoor

namespace Go.Proofs.YthmojneobkaolaaGreatDoor
open Go.RowKit
set_option linter.unusedVariables false

def zB (n : Nat) : Bt := List.replicate n 0
theorem zB_len (n : Nat) : (zB n).length = n := by simp [zB]
section
variable {w : World}
set_option maxRecDepth 100000 in
theorem extright_ok (w : World) : Calls Tryz.prog 200 #[.slice none 0 0] w fun e w' => e = .returned (.int .i64 0) ∧ Ext w w' := by
  go_enter Tryz.func200, Tryz.ntmps200
  go_wp2_with fail
  go_loopw [10] (fun v wr => v = .int .i64 0 ∧ Ext w wr) (fun _ _ => 0)
  case atStart => exact ⟨rfl, Ext.refl _⟩
  case round =>
    obtain ⟨rfl, hx⟩ := hrel
    go_wp2_with fail
    go_ret
    exact ⟨rfl, hx⟩
set_option maxRecDepth 100000 in
theorem extof_ok (w : World) : Calls Tryz.prog 201 #[.slice none 0 0] w fun e w' => e = .returned (.tuple #[.slice none 0 0, .int .i64 0]) ∧ Ext w w' := by
  go_enter Tryz.func201, Tryz.ntmps201
  go_wp2_with fail
  refine (extright_ok _).mono ?_
  rintro e w2 ⟨rfl, hx2⟩
  go_wp2_with fail
  go_loopw [16, 5] (fun v u wr => v = .int .i64 0 ∧ u = .slice none 0 0 ∧ Ext w wr) (fun _ _ _ => 0)
  case atStart => exact ⟨rfl, rfl, hx2⟩
  case round =>
    obtain ⟨rfl, rfl, hx⟩ := hrel
    go_wp2_with fail
    go_ret2
    exact ⟨rfl, hx⟩
set_option maxRecDepth 100000 in
theorem extpack_ok (w : World) : Calls Tryz.prog 123 #[.slice none 0 0] w fun e w' => ∃ g, e = .returned (.tuple #[.slice (some ⟨g, 0, none⟩) 16 16, .int .i64 0]) ∧ w.heap.size ≤ g ∧ Blk w' g 5 (bytesV (zB 16)).toArray ∧ Ext w w' := by
  have hmk : ∀ W : World, (Instr.makeSlice 29 (.int .i64 16) (.int .i64 16)).run Tryz.prog W = .ok (.slice (some ⟨W.heap.size, 0, none⟩) 16 16) (W.alloc (.cells (bytesV (zB 16)).toArray 5)) := fun W => run_made 16 (by omega) W
  have HMK := hide hmk
  clear hmk
  go_enter Tryz.func123, Tryz.ntmps123
  go_wp2_with fail
  refine (extof_ok _).mono ?_
  rintro e w2 ⟨rfl, hx2⟩
  have hmk := HMK.out w2
  have HX := hide (hx2.alloc (.cells (bytesV (zB 16)).toArray 5))
  have HB := hide (Blk.new w2 5 (bytesV (zB 16)).toArray)
  have HG := hide hx2.size
  clear hx2
  go_upto_region 5 with fail
  generalize w2.alloc _ = W at *
  go_wp2_with fail
  go_loopw [20] (fun v wr => v = .int .i64 0 ∧ Blk wr w2.heap.size 5 (bytesV (zB 16)).toArray ∧ Ext w wr) (fun _ _ => 0)
  case atStart => exact ⟨rfl, HB.out, HX.out⟩
  case round =>
    obtain ⟨rfl, hb, hx⟩ := hrel
    go_wp2_with fail
    go_ret2
    exact ⟨_, rfl, HG.out, hb, hx⟩
set_option maxRecDepth 100000 in
theorem extpoints_ok (w : World) : Calls Tryz.prog 265 #[.slice none 0 0] w fun e w' => e = .returned (.tuple #[.slice none 0 0, .int .i64 0]) ∧ Ext w w' := by
  go_enter Tryz.func265, Tryz.ntmps265
  go_wp2_with fail
  go_loopw [10, 4] (fun v u wr => v = .int .i64 0 ∧ u = .slice none 0 0 ∧ Ext w wr) (fun _ _ _ => 0)
  case atStart => exact ⟨rfl, rfl, Ext.refl _⟩
  case round =>
    obtain ⟨rfl, rfl, hx⟩ := hrel
    go_wp2_with fail
    go_ret2
    exact ⟨rfl, hx⟩
set_option maxHeartbeats 4000000 in
set_option maxRecDepth 100000 in
theorem extunpack_ok (sb so c : Nat) (w : World) (hr : Reads w w.heap.size 1 (some ⟨sb, so, none⟩) 16 (bytesV (zB 16))) : Calls Tryz.prog 204 #[.slice (some ⟨sb, so, none⟩) 16 c] w fun e w' => e = .returned (.tuple #[.slice none 0 0, .int .i64 0]) ∧ Ext w w' := by
  have HR := hide hr
  clear hr
  have c1 : w.cell? ⟨sb, so + 1, none⟩ = some (.int .u8 0) := by
    obtain ⟨b', o', he, hlt, hcell⟩ := HR.out.at1 (by omega)
    injection he with he
    injection he with he1 he2
    subst he1 he2
    rw [hcell 1 (by omega)]
    rfl
  go_enter Tryz.func204, Tryz.ntmps204
  go_upto_region 5 with fail
  go_loopw [5, 4] (fun v u wr => v = .int .i64 0 ∧ u = .slice none 0 0 ∧ wr = w) (fun _ _ _ => 0)
  case atStart => exact ⟨rfl, rfl, rfl⟩
  case round =>
    obtain ⟨rfl, rfl, hw⟩ := hrel
    subst hw
    go_upto_region 8 with fail
    go_wp2_with fail
    refine (extpoints_ok _).mono ?_
    rintro e w2 ⟨rfl, hx2⟩
    go_wp2_with fail
    refine (extpack_ok _).mono ?_
    rintro e w3 ⟨g, rfl, hg, hb, hx3⟩
    have HX := hide (hx2.trans hx3)
    have hr3 := (hx2.trans hx3).reads HR.out (Nat.le_refl _)
    have hrb : Reads w3 w3.heap.size 1 (some ⟨g, 0, none⟩) 16 (bytesV (zB 16)) := hb.reads
    have k1 := conv_str (P := Tryz.prog) Tryz.underlying29 Tryz.underlying5 Tryz.underlying9 hr3 c
    have k2 := conv_str (P := Tryz.prog) Tryz.underlying29 Tryz.underlying5 Tryz.underlying9 hrb 16
    clear hx2 hx3 hr3 hrb hb hg HR
    generalize zB 16 = z at *
    go_upto_region 12 with fail
    go_wp2_with fail
    go_ret2
    exact ⟨rfl, HX.out⟩
end
end Go.Proofs.YthmojneobkaolaaGreatDoor

namespace Go.Proofs.YthmojneobkaolaaGreatDoor
open Go.RowKit
set_option linter.unusedVariables false

abbrev ndZ : List Value := [.int .i64 0, .int .i64 0, .int .i64 0, .int .i64 0, .int .i64 0, .int .i64 0, .int .i64 0, .slice none 0 0]
abbrev ndR : List Value := [.int .i64 2, .int .i64 493, .int .i64 0, .int .i64 0, .int .i64 0, .int .i64 1, .int .i64 1, .slice none 0 0]
theorem node_size (l : List Value) (h : l.length = 8) : (Tryz.prog.info? 136).map (·.size) = some l.length := by
  rw [h]
  kernel_rfl
section
variable {w : World}
set_option maxRecDepth 100000 in
theorem blocks_ok (w : World) : Calls Tryz.prog 143 #[.int .i64 0] w fun e w' => e = .returned (.int .i64 0) ∧ w' = w := by
  go_enter Tryz.func143, Tryz.ntmps143
  go_wp2_with fail
  go_ret
  exact ⟨rfl, rfl⟩
set_option maxHeartbeats 4000000 in
set_option maxRecDepth 100000 in
theorem rightz_ok (w : World) : Calls Tryz.prog 122 #[.agg #[.int .i64 0, .int .i64 0, .int .i64 0, .int .i64 0, .int .i64 0, .int .i64 0, .int .i64 0, .slice none 0 0]] w fun e w' => e = .returned (.int .i64 0) ∧ Ext w w' := by
  have HX := hide ((Ext.refl w).alloc (.cells ndZ.toArray 136))
  have hb := Blk.new w 136 ndZ.toArray
  have c0 := hb.cell 0
  have c1 := hb.cell 1
  have c2 := hb.cell 2
  have c3 := hb.cell 3
  have c4 := hb.cell 4
  have c5 := hb.cell 5
  have c6 := hb.cell 6
  have c7 := hb.cell 7
  simp only [List.getElem?_toArray, List.getElem?_cons_zero, List.getElem?_cons_succ] at c0 c1 c2 c3 c4 c5 c6 c7
  clear hb
  go_enter Tryz.func122, Tryz.ntmps122
  go_wp2_with fail
  go_ret
  exact ⟨rfl, HX.out⟩
set_option maxHeartbeats 4000000 in
set_option maxRecDepth 100000 in
theorem rightr_ok (w : World) : Calls Tryz.prog 122 #[.agg #[.int .i64 2, .int .i64 493, .int .i64 0, .int .i64 0, .int .i64 0, .int .i64 1, .int .i64 1, .slice none 0 0]] w fun e w' => e = .returned (.int .i64 0) ∧ Ext w w' := by
  have HX := hide ((Ext.refl w).alloc (.cells ndR.toArray 136))
  have hb := Blk.new w 136 ndR.toArray
  have HB := hide hb
  have c0 := hb.cell 0
  have c1 := hb.cell 1
  have c2 := hb.cell 2
  have c3 := hb.cell 3
  have c4 := hb.cell 4
  have c5 := hb.cell 5
  have c6 := hb.cell 6
  have c7 := hb.cell 7
  simp only [List.getElem?_toArray, List.getElem?_cons_zero, List.getElem?_cons_succ] at c0 c1 c2 c3 c4 c5 c6 c7
  clear hb
  have HRT := hide extright_ok
  have HBL := hide blocks_ok
  go_enter Tryz.func122, Tryz.ntmps122
  go_upto_region 11 with fail
  go_wp2_with fail
  refine (HRT.out _).mono ?_
  rintro e w2 ⟨rfl, hx2⟩
  have HX2 := hide (HX.out.trans hx2)
  have hb2 := HB.out.ext hx2
  have k4 := hb2.cell 4
  have k7 := hb2.cell 7
  simp only [List.getElem?_toArray, List.getElem?_cons_zero, List.getElem?_cons_succ] at k4 k7
  clear hb2 hx2 c0 c1 c2 c3 c4 c5 c6 c7 HX HB
  go_upto_region 14 with fail
  go_quiet ((go_at_call 143; exact Calls.quiet_of_same (HBL.out _)))
  go_wp2_with fail
  go_ret
  exact ⟨rfl, HX2.out.drewN _⟩
end
end Go.Proofs.YthmojneobkaolaaGreatDoor

namespace Go.Proofs.YthmojneobkaolaaGreatDoor
open Go.RowKit
set_option linter.unusedVariables false

section
variable {w : World}
set_option maxHeartbeats 4000000 in
set_option maxRecDepth 100000 in
theorem packz_ok (w : World) : Calls Tryz.prog 56 #[.agg #[.int .i64 0, .int .i64 0, .int .i64 0, .int .i64 0, .int .i64 0, .int .i64 0, .int .i64 0, .slice none 0 0]] w fun e w' => ∃ g, e = .returned (.tuple #[.slice (some ⟨g, 0, none⟩) 32 32, .int .i64 0]) ∧ w.heap.size ≤ g ∧ Blk w' g 5 (bytesV (zB 32)).toArray ∧ Ext w w' := by
  have hx := (Ext.refl w).alloc (.cells ndZ.toArray 136)
  have HX := hide hx
  have HB := hide (Blk.new w 136 ndZ.toArray)
  have HMK := hide (run_made 32 (by omega))
  have HLD := hide (HB.out.all)
  have HSZ := hide (node_size ndZ rfl)
  have HRT := hide rightz_ok
  clear hx
  go_enter Tryz.func56, Tryz.ntmps56
  go_upto_region 1 with fail
  obtain ⟨nb, hnb⟩ : ∃ nb, w.heap.size = nb := ⟨_, rfl⟩
  have HNB := hide hnb
  rw [hnb] at HB HLD ⊢
  clear hnb
  generalize w.alloc _ = W at *
  go_wp2_with ((with_reducible refine wpList_load_mid rfl 136 (.tmp 1) rfl nb 0 rfl ndZ _ HLD.out Tryz.underlying136 rfl HSZ.out ?_))
  refine (HRT.out _).mono ?_
  rintro e w2 ⟨rfl, hx2⟩
  have hmk := HMK.out w2
  have HX2 := hide ((HX.out.trans hx2).alloc (.cells (bytesV (zB 32)).toArray 5))
  have HG := hide ((HX.out.trans hx2).size)
  have HR := hide (Blk.new w2 5 (bytesV (zB 32)).toArray)
  have c0 := ((HB.out.ext hx2).alloc (.cells (bytesV (zB 32)).toArray 5)).cell 0
  simp only [List.getElem?_toArray, List.getElem?_cons_zero] at c0
  clear hx2
  change (Instr.makeSlice 29 (.int .i64 32) (.int .i64 32)).run Tryz.prog w2 = .ok (.slice (some ⟨w2.heap.size, 0, none⟩) 32 32) (w2.alloc (.cells (bytesV (zB 32)).toArray 5)) at hmk
  go_upto_region 5 with fail
  generalize w2.alloc _ = W3 at *
  go_wp2_with fail
  go_ret2
  exact ⟨_, rfl, HG.out, HR.out, HX2.out⟩
def rootB : Bt := [2, 237, 1, 0, 0, 0, 0, 1, 1, 0, 0, 0, 0, 0, 0, 0, 0, 0, 0, 0, 0, 0, 0, 0, 0, 0, 0, 0, 0, 0, 0, 0]
set_option maxHeartbeats 4000000 in
set_option maxRecDepth 100000 in
theorem packr_ok (w : World) : Calls Tryz.prog 56 #[.agg #[.int .i64 2, .int .i64 493, .int .i64 0, .int .i64 0, .int .i64 0, .int .i64 1, .int .i64 1, .slice none 0 0]] w fun e w' => ∃ g, e = .returned (.tuple #[.slice (some ⟨g, 0, none⟩) 32 32, .int .i64 0]) ∧ w.heap.size ≤ g ∧ Blk w' g 5 (bytesV rootB).toArray ∧ Ext w w' := by
  have hx := (Ext.refl w).alloc (.cells ndR.toArray 136)
  have HX := hide hx
  have HB := hide (Blk.new w 136 ndR.toArray)
  have HMK := hide (run_made 32 (by omega))
  have HLD := hide (HB.out.all)
  have HSZ := hide (node_size ndR rfl)
  have HRT := hide rightr_ok
  have HPK := hide extpack_ok
  clear hx
  go_enter Tryz.func56, Tryz.ntmps56
  go_upto_region 1 with fail
  obtain ⟨nb, hnb⟩ : ∃ nb, w.heap.size = nb := ⟨_, rfl⟩
  have HNB := hide hnb
  rw [hnb] at HB HLD ⊢
  clear hnb
  generalize w.alloc _ = W0 at *
  go_wp2_with ((with_reducible refine wpList_load_mid rfl 136 (.tmp 1) rfl nb 0 rfl ndR _ HLD.out Tryz.underlying136 rfl HSZ.out ?_))
  refine (HRT.out _).mono ?_
  rintro e w2 ⟨rfl, hx2⟩
  have hmk := HMK.out w2
  have HX2 := hide ((HX.out.trans hx2).alloc (.cells (bytesV (zB 32)).toArray 5))
  have HG := hide ((HX.out.trans hx2).size)
  have HR := hide (Blk.new w2 5 (bytesV (zB 32)).toArray)
  have HB2 := hide ((HB.out.ext hx2).alloc (.cells (bytesV (zB 32)).toArray 5))
  have c0 := HB2.out.cell 0
  have c7 := HB2.out.cell 7
  have HNG := hide (HB.out.ext hx2).lt
  simp only [List.getElem?_toArray, List.getElem?_cons_zero, List.getElem?_cons_succ] at c0 c7
  clear hx2 HX
  change (Instr.makeSlice 29 (.int .i64 32) (.int .i64 32)).run Tryz.prog w2 = .ok (.slice (some ⟨w2.heap.size, 0, none⟩) 32 32) (w2.alloc (.cells (bytesV (zB 32)).toArray 5)) at hmk
  go_upto_region 5 with fail
  generalize w2.alloc _ = W3 at *
  obtain ⟨g, hg⟩ : ∃ g, w2.heap.size = g := ⟨_, rfl⟩
  rw [hg] at HG HR HNG ⊢
  clear hg hmk
  go_upto_region 7 with fail
  go_wp2_with fail
  refine (HPK.out _).mono ?_
  rintro e W ⟨gp, rfl, hgp, hbp, hxp⟩
  have HBW := hide (HB2.out.ext hxp)
  have HRW := hide (HR.out.ext hxp)
  have HXW := hide (HX2.out.trans hxp)
  have HPW := hide hbp
  have hnp : gp ≠ g := by have := HR.out.lt; omega
  have hgw : w.heap.size ≤ g := HG.out
  have hne : nb ≠ g := by have := HNG.out; omega
  clear hxp hbp hgp HB2 HR HX2 c0 c7 HB HLD HRT HPK
  go_upto_region 10 with fail
  have u0 : IntKind.u8.wrap 0 = 0 := by decide
  have u1 : IntKind.u8.wrap 1 = 1 := by decide
  have u2 : IntKind.u8.wrap 2 = 2 := by decide
  have u3 : IntKind.u8.wrap 493 = 237 := by decide
  refine begin_held (fun (w' : World) => Blk w' nb 136 ndR.toArray) (by kernel_rfl) ?_
  have hS0 : (fun (w' : World) => Blk w' nb 136 ndR.toArray) (W.drew) := by exact HBW.out.drew
  have HR0 := hide HRW.out.drew
  have HXd := hide HXW.out.drew
  have HBd := hide HBW.out.drew
  have HPd := hide HPW.out.drew
  generalize W.drew = Wd at HR0 HXd HBd HPd hS0 ⊢
  refine takeH_op (i := 0) (d := some 27) (v := ?v1001) hS0 rfl (by kernel_rfl) (by kernel_rfl) (by kernel_rfl) (fun _ _ _ h => h) (fun oi ho => ?hy1001) ?rest1001
  case hy1001 => (simp only [List.getElem?_toArray, List.getElem?_cons_zero, Option.some.injEq] at ho; subst ho; refine Or.inl ⟨by rfl, fun w' _ => ?_⟩; go_simp; try (with_reducible rfl))
  simp only [Act.put, List.setIfInBounds_toArray, List.set_cons_zero, List.set_cons_succ]
  refine takeH_op (i := 1) (d := some 28) (v := ?v1002) hS0 rfl (by kernel_rfl) (by kernel_rfl) (by kernel_rfl) (fun _ _ _ h => h) (fun oi ho => ?hy1002) ?rest1002
  case hy1002 => (simp only [List.getElem?_toArray, List.getElem?_cons_succ, List.getElem?_cons_zero, Option.some.injEq] at ho; subst ho; refine Or.inl ⟨by rfl, fun w' _ => ?_⟩; go_simp; try (with_reducible rfl))
  simp only [Act.put, List.setIfInBounds_toArray, List.set_cons_zero, List.set_cons_succ]
  refine takeH_op (i := 2) (d := some 29) (v := ?v1003) hS0 rfl (by kernel_rfl) (by kernel_rfl) (by kernel_rfl) (fun _ _ _ h => h) (fun oi ho => ?hy1003) ?rest1003
  case hy1003 => (simp only [List.getElem?_toArray, List.getElem?_cons_succ, List.getElem?_cons_zero, Option.some.injEq] at ho; subst ho; refine Or.inl ⟨by rfl, fun w' _ => ?_⟩; go_simp; try (with_reducible rfl))
  simp only [Act.put, List.setIfInBounds_toArray, List.set_cons_zero, List.set_cons_succ]
  refine takeH_op (i := 3) (d := some 30) (v := ?v1004) hS0 rfl (by kernel_rfl) (by kernel_rfl) (by kernel_rfl) (fun _ _ _ h => h) (fun oi ho => ?hy1004) ?rest1004
  case hy1004 => (simp only [List.getElem?_toArray, List.getElem?_cons_succ, List.getElem?_cons_zero, Option.some.injEq] at ho; subst ho; refine Or.inl ⟨by rfl, fun w' _ => ?_⟩; go_simp; try (with_reducible rfl))
  simp only [Act.put, List.setIfInBounds_toArray, List.set_cons_zero, List.set_cons_succ]
  refine takeH_op (i := 4) (d := some 31) (v := ?v1005) hS0 rfl (by kernel_rfl) (by kernel_rfl) (by kernel_rfl) (fun _ _ _ h => h) (fun oi ho => ?hy1005) ?rest1005
  case hy1005 => (simp only [List.getElem?_toArray, List.getElem?_cons_succ, List.getElem?_cons_zero, Option.some.injEq] at ho; subst ho; refine Or.inl ⟨by rfl, fun w' _ => ?_⟩; go_simp; try (with_reducible rfl))
  simp only [Act.put, List.setIfInBounds_toArray, List.set_cons_zero, List.set_cons_succ]
  refine takeH_op (i := 5) (d := some 32) (v := ?v1006) hS0 rfl (by kernel_rfl) (by kernel_rfl) (by kernel_rfl) (fun _ _ _ h => h) (fun oi ho => ?hy1006) ?rest1006
  case hy1006 => (simp only [List.getElem?_toArray, List.getElem?_cons_succ, List.getElem?_cons_zero, Option.some.injEq] at ho; subst ho; refine Or.inl ⟨by rfl, fun w' _ => ?_⟩; go_simp; try (with_reducible rfl))
  simp only [Act.put, List.setIfInBounds_toArray, List.set_cons_zero, List.set_cons_succ]
  refine takeH_op (i := 6) (d := some 33) (v := ?v1007) hS0 rfl (by kernel_rfl) (by kernel_rfl) (by kernel_rfl) (fun _ _ _ h => h) (fun oi ho => ?hy1007) ?rest1007
  case hy1007 => (simp only [List.getElem?_toArray, List.getElem?_cons_succ, List.getElem?_cons_zero, Option.some.injEq] at ho; subst ho; refine Or.inl ⟨by rfl, fun w' hS' => ?_⟩; have k := hS'.cell 0; simp only [List.getElem?_toArray, List.getElem?_cons_zero] at k; go_simp; try (with_reducible rfl))
  simp only [Act.put, List.setIfInBounds_toArray, List.set_cons_zero, List.set_cons_succ]
  refine takeH_op (i := 7) (d := some 34) (v := ?v1008) hS0 rfl (by kernel_rfl) (by kernel_rfl) (by kernel_rfl) (fun _ _ _ h => h) (fun oi ho => ?hy1008) ?rest1008
  case hy1008 => (simp only [List.getElem?_toArray, List.getElem?_cons_succ, List.getElem?_cons_zero, Option.some.injEq] at ho; subst ho; refine Or.inl ⟨by rfl, fun w' hS' => ?_⟩; skip; go_simp; try (with_reducible rfl))
  simp only [Act.put, List.setIfInBounds_toArray, List.set_cons_zero, List.set_cons_succ]
  refine takeH_op (i := 8) (d := some 35) (v := ?v1009) hS0 rfl (by kernel_rfl) (by kernel_rfl) (by kernel_rfl) (fun _ _ _ h => h) (fun oi ho => ?hy1009) ?rest1009
  case hy1009 => (simp only [List.getElem?_toArray, List.getElem?_cons_succ, List.getElem?_cons_zero, Option.some.injEq] at ho; subst ho; refine Or.inl ⟨by rfl, fun w' _ => ?_⟩; go_simp; try (with_reducible rfl))
  simp only [Act.put, List.setIfInBounds_toArray, List.set_cons_zero, List.set_cons_succ]
  refine takeH_op (i := 9) (d := some 36) (v := ?v1010) hS0 rfl (by kernel_rfl) (by kernel_rfl) (by kernel_rfl) (fun _ _ _ h => h) (fun oi ho => ?hy1010) ?rest1010
  case hy1010 => (simp only [List.getElem?_toArray, List.getElem?_cons_succ, List.getElem?_cons_zero, Option.some.injEq] at ho; subst ho; refine Or.inl ⟨by rfl, fun w' hS' => ?_⟩; have k := hS'.cell 1; simp only [List.getElem?_toArray, List.getElem?_cons_zero, List.getElem?_cons_succ] at k; go_simp; try (with_reducible rfl))
  simp only [Act.put, List.setIfInBounds_toArray, List.set_cons_zero, List.set_cons_succ]
  refine takeH_op (i := 10) (d := some 37) (v := ?v1011) hS0 rfl (by kernel_rfl) (by kernel_rfl) (by kernel_rfl) (fun _ _ _ h => h) (fun oi ho => ?hy1011) ?rest1011
  case hy1011 => (simp only [List.getElem?_toArray, List.getElem?_cons_succ, List.getElem?_cons_zero, Option.some.injEq] at ho; subst ho; refine Or.inl ⟨by rfl, fun w' hS' => ?_⟩; skip; go_simp; try (with_reducible rfl))
  simp only [Act.put, List.setIfInBounds_toArray, List.set_cons_zero, List.set_cons_succ]
  refine takeH_op (i := 11) (d := some 38) (v := ?v1012) hS0 rfl (by kernel_rfl) (by kernel_rfl) (by kernel_rfl) (fun _ _ _ h => h) (fun oi ho => ?hy1012) ?rest1012
  case hy1012 => (simp only [List.getElem?_toArray, List.getElem?_cons_succ, List.getElem?_cons_zero, Option.some.injEq] at ho; subst ho; refine Or.inl ⟨by rfl, fun w' _ => ?_⟩; go_simp; try (with_reducible rfl))
  simp only [Act.put, List.setIfInBounds_toArray, List.set_cons_zero, List.set_cons_succ]
  refine takeH_op (i := 12) (d := some 39) (v := ?v1013) hS0 rfl (by kernel_rfl) (by kernel_rfl) (by kernel_rfl) (fun _ _ _ h => h) (fun oi ho => ?hy1013) ?rest1013
  case hy1013 => (simp only [List.getElem?_toArray, List.getElem?_cons_succ, List.getElem?_cons_zero, Option.some.injEq] at ho; subst ho; refine Or.inl ⟨by rfl, fun w' hS' => ?_⟩; have k := hS'.cell 1; simp only [List.getElem?_toArray, List.getElem?_cons_zero, List.getElem?_cons_succ] at k; go_simp; try (with_reducible rfl))
  simp only [Act.put, List.setIfInBounds_toArray, List.set_cons_zero, List.set_cons_succ]
  refine takeH_op (i := 13) (d := some 40) (v := ?v1014) hS0 rfl (by kernel_rfl) (by kernel_rfl) (by kernel_rfl) (fun _ _ _ h => h) (fun oi ho => ?hy1014) ?rest1014
  case hy1014 => (simp only [List.getElem?_toArray, List.getElem?_cons_succ, List.getElem?_cons_zero, Option.some.injEq] at ho; subst ho; refine Or.inl ⟨by rfl, fun w' _ => ?_⟩; go_simp; try (with_reducible rfl))
  simp only [Act.put, List.setIfInBounds_toArray, List.set_cons_zero, List.set_cons_succ]
  refine takeH_op (i := 14) (d := some 41) (v := ?v1015) hS0 rfl (by kernel_rfl) (by kernel_rfl) (by kernel_rfl) (fun _ _ _ h => h) (fun oi ho => ?hy1015) ?rest1015
  case hy1015 => (simp only [List.getElem?_toArray, List.getElem?_cons_succ, List.getElem?_cons_zero, Option.some.injEq] at ho; subst ho; refine Or.inl ⟨by rfl, fun w' hS' => ?_⟩; skip; go_simp; try (with_reducible rfl))
  simp only [Act.put, List.setIfInBounds_toArray, List.set_cons_zero, List.set_cons_succ]
  refine takeH_op (i := 15) (d := some 42) (v := ?v1016) hS0 rfl (by kernel_rfl) (by kernel_rfl) (by kernel_rfl) (fun _ _ _ h => h) (fun oi ho => ?hy1016) ?rest1016
  case hy1016 => (simp only [List.getElem?_toArray, List.getElem?_cons_succ, List.getElem?_cons_zero, Option.some.injEq] at ho; subst ho; refine Or.inl ⟨by rfl, fun w' _ => ?_⟩; go_simp; try (with_reducible rfl))
  simp only [Act.put, List.setIfInBounds_toArray, List.set_cons_zero, List.set_cons_succ]
  refine takeH_op (i := 16) (d := some 43) (v := ?v1017) hS0 rfl (by kernel_rfl) (by kernel_rfl) (by kernel_rfl) (fun _ _ _ h => h) (fun oi ho => ?hy1017) ?rest1017
  case hy1017 => (simp only [List.getElem?_toArray, List.getElem?_cons_succ, List.getElem?_cons_zero, Option.some.injEq] at ho; subst ho; refine Or.inl ⟨by rfl, fun w' hS' => ?_⟩; have k := hS'.cell 2; simp only [List.getElem?_toArray, List.getElem?_cons_zero, List.getElem?_cons_succ] at k; go_simp; try (with_reducible rfl))
  simp only [Act.put, List.setIfInBounds_toArray, List.set_cons_zero, List.set_cons_succ]
  refine takeH_op (i := 17) (d := some 44) (v := ?v1018) hS0 rfl (by kernel_rfl) (by kernel_rfl) (by kernel_rfl) (fun _ _ _ h => h) (fun oi ho => ?hy1018) ?rest1018
  case hy1018 => (simp only [List.getElem?_toArray, List.getElem?_cons_succ, List.getElem?_cons_zero, Option.some.injEq] at ho; subst ho; refine Or.inl ⟨by rfl, fun w' hS' => ?_⟩; skip; go_simp; try (with_reducible rfl))
  simp only [Act.put, List.setIfInBounds_toArray, List.set_cons_zero, List.set_cons_succ]
  refine takeH_op (i := 18) (d := some 45) (v := ?v1019) hS0 rfl (by kernel_rfl) (by kernel_rfl) (by kernel_rfl) (fun _ _ _ h => h) (fun oi ho => ?hy1019) ?rest1019
  case hy1019 => (simp only [List.getElem?_toArray, List.getElem?_cons_succ, List.getElem?_cons_zero, Option.some.injEq] at ho; subst ho; refine Or.inl ⟨by rfl, fun w' _ => ?_⟩; go_simp; try (with_reducible rfl))
  simp only [Act.put, List.setIfInBounds_toArray, List.set_cons_zero, List.set_cons_succ]
  refine takeH_op (i := 19) (d := some 46) (v := ?v1020) hS0 rfl (by kernel_rfl) (by kernel_rfl) (by kernel_rfl) (fun _ _ _ h => h) (fun oi ho => ?hy1020) ?rest1020
  case hy1020 => (simp only [List.getElem?_toArray, List.getElem?_cons_succ, List.getElem?_cons_zero, Option.some.injEq] at ho; subst ho; refine Or.inl ⟨by rfl, fun w' hS' => ?_⟩; have k := hS'.cell 3; simp only [List.getElem?_toArray, List.getElem?_cons_zero, List.getElem?_cons_succ] at k; go_simp; try (with_reducible rfl))
  simp only [Act.put, List.setIfInBounds_toArray, List.set_cons_zero, List.set_cons_succ]
  refine takeH_op (i := 20) (d := some 47) (v := ?v1021) hS0 rfl (by kernel_rfl) (by kernel_rfl) (by kernel_rfl) (fun _ _ _ h => h) (fun oi ho => ?hy1021) ?rest1021
  case hy1021 => (simp only [List.getElem?_toArray, List.getElem?_cons_succ, List.getElem?_cons_zero, Option.some.injEq] at ho; subst ho; refine Or.inl ⟨by rfl, fun w' hS' => ?_⟩; skip; go_simp; try (with_reducible rfl))
  simp only [Act.put, List.setIfInBounds_toArray, List.set_cons_zero, List.set_cons_succ]
  refine takeH_op (i := 21) (d := some 48) (v := ?v1022) hS0 rfl (by kernel_rfl) (by kernel_rfl) (by kernel_rfl) (fun _ _ _ h => h) (fun oi ho => ?hy1022) ?rest1022
  case hy1022 => (simp only [List.getElem?_toArray, List.getElem?_cons_succ, List.getElem?_cons_zero, Option.some.injEq] at ho; subst ho; refine Or.inl ⟨by rfl, fun w' _ => ?_⟩; go_simp; try (with_reducible rfl))
  simp only [Act.put, List.setIfInBounds_toArray, List.set_cons_zero, List.set_cons_succ]
  refine readyH (rs := [22]) (by kernel_rfl) (by simp) ?_
  refine consH_op (by decide) (fun o ho K hK => ?_) ?_
  simp only [List.getElem?_toArray, List.getElem?_cons_succ, List.getElem?_cons_zero, Option.some.injEq] at ho
  subst ho
  (have f := HR0.out.frozen 0; have c : Wd.cell? ⟨g, 0, none⟩ = some (.int .u8 0) := HR0.out.cell 0; go_simp)
  have hS1023 : (fun (w' : World) => Blk w' nb 136 ndR.toArray) ((Wd.setCell ⟨g, 0, none⟩ (.int .u8 2))) := by exact Blk.far (by assumption) hne _
  refine hK _ _ hS1023 ?_
  clear hK K
  try (simp only [Act.put])
  have HR1 := hide (HR0.out.set_ 0 (.int .u8 2))
  refine takeH_op (i := 23) (d := some 49) (v := ?v1024) hS1023 rfl (by kernel_rfl) (by kernel_rfl) (by kernel_rfl) (fun _ _ _ h => h) (fun oi ho => ?hy1024) ?rest1024
  case hy1024 => (simp only [List.getElem?_toArray, List.getElem?_cons_succ, List.getElem?_cons_zero, Option.some.injEq] at ho; subst ho; refine Or.inl ⟨by rfl, fun w' _ => ?_⟩; go_simp; try (with_reducible rfl))
  simp only [Act.put, List.setIfInBounds_toArray, List.set_cons_zero, List.set_cons_succ]
  refine readyH (rs := [24]) (by kernel_rfl) (by simp) ?_
  refine consH_op (by decide) (fun o ho K hK => ?_) ?_
  simp only [List.getElem?_toArray, List.getElem?_cons_succ, List.getElem?_cons_zero, Option.some.injEq] at ho
  subst ho
  (have f := HR0.out.frozen 1; have c : Wd.cell? ⟨g, 1, none⟩ = some (.int .u8 0) := HR0.out.cell 1; go_simp)
  have hS1025 : (fun (w' : World) => Blk w' nb 136 ndR.toArray) (((Wd.setCell ⟨g, 0, none⟩ (.int .u8 2)).setCell ⟨g, 1, none⟩ (.int .u8 237))) := by exact Blk.far (by assumption) hne _
  refine hK _ _ hS1025 ?_
  clear hK K
  try (simp only [Act.put])
  have HR2 := hide (HR1.out.set_ 1 (.int .u8 237))
  refine takeH_op (i := 25) (d := some 50) (v := ?v1026) hS1025 rfl (by kernel_rfl) (by kernel_rfl) (by kernel_rfl) (fun _ _ _ h => h) (fun oi ho => ?hy1026) ?rest1026
  case hy1026 => (simp only [List.getElem?_toArray, List.getElem?_cons_succ, List.getElem?_cons_zero, Option.some.injEq] at ho; subst ho; refine Or.inl ⟨by rfl, fun w' _ => ?_⟩; go_simp; try (with_reducible rfl))
  simp only [Act.put, List.setIfInBounds_toArray, List.set_cons_zero, List.set_cons_succ]
  refine readyH (rs := [26]) (by kernel_rfl) (by simp) ?_
  refine consH_op (by decide) (fun o ho K hK => ?_) ?_
  simp only [List.getElem?_toArray, List.getElem?_cons_succ, List.getElem?_cons_zero, Option.some.injEq] at ho
  subst ho
  (have f := HR0.out.frozen 2; have c : Wd.cell? ⟨g, 2, none⟩ = some (.int .u8 0) := HR0.out.cell 2; go_simp)
  have hS1027 : (fun (w' : World) => Blk w' nb 136 ndR.toArray) ((((Wd.setCell ⟨g, 0, none⟩ (.int .u8 2)).setCell ⟨g, 1, none⟩ (.int .u8 237)).setCell ⟨g, 2, none⟩ (.int .u8 1))) := by exact Blk.far (by assumption) hne _
  refine hK _ _ hS1027 ?_
  clear hK K
  try (simp only [Act.put])
  have HR3 := hide (HR2.out.set_ 2 (.int .u8 1))
  refine takeH_op (i := 27) (d := some 51) (v := ?v1028) hS1027 rfl (by kernel_rfl) (by kernel_rfl) (by kernel_rfl) (fun _ _ _ h => h) (fun oi ho => ?hy1028) ?rest1028
  case hy1028 => (simp only [List.getElem?_toArray, List.getElem?_cons_succ, List.getElem?_cons_zero, Option.some.injEq] at ho; subst ho; refine Or.inl ⟨by rfl, fun w' _ => ?_⟩; go_simp; try (with_reducible rfl))
  simp only [Act.put, List.setIfInBounds_toArray, List.set_cons_zero, List.set_cons_succ]
  refine readyH (rs := [28]) (by kernel_rfl) (by simp) ?_
  refine consH_op (by decide) (fun o ho K hK => ?_) ?_
  simp only [List.getElem?_toArray, List.getElem?_cons_succ, List.getElem?_cons_zero, Option.some.injEq] at ho
  subst ho
  (have f := HR0.out.frozen 3; have c : Wd.cell? ⟨g, 3, none⟩ = some (.int .u8 0) := HR0.out.cell 3; go_simp)
  have hS1029 : (fun (w' : World) => Blk w' nb 136 ndR.toArray) (((((Wd.setCell ⟨g, 0, none⟩ (.int .u8 2)).setCell ⟨g, 1, none⟩ (.int .u8 237)).setCell ⟨g, 2, none⟩ (.int .u8 1)).setCell ⟨g, 3, none⟩ (.int .u8 0))) := by exact Blk.far (by assumption) hne _
  refine hK _ _ hS1029 ?_
  clear hK K
  try (simp only [Act.put])
  have HR4 := hide (HR3.out.set_ 3 (.int .u8 0))
  refine takeH_op (i := 29) (d := some 52) (v := ?v1030) hS1029 rfl (by kernel_rfl) (by kernel_rfl) (by kernel_rfl) (fun _ _ _ h => h) (fun oi ho => ?hy1030) ?rest1030
  case hy1030 => (simp only [List.getElem?_toArray, List.getElem?_cons_succ, List.getElem?_cons_zero, Option.some.injEq] at ho; subst ho; refine Or.inl ⟨by rfl, fun w' _ => ?_⟩; go_simp; try (with_reducible rfl))
  simp only [Act.put, List.setIfInBounds_toArray, List.set_cons_zero, List.set_cons_succ]
  refine readyH (rs := [30]) (by kernel_rfl) (by simp) ?_
  refine consH_op (by decide) (fun o ho K hK => ?_) ?_
  simp only [List.getElem?_toArray, List.getElem?_cons_succ, List.getElem?_cons_zero, Option.some.injEq] at ho
  subst ho
  (have f := HR0.out.frozen 4; have c : Wd.cell? ⟨g, 4, none⟩ = some (.int .u8 0) := HR0.out.cell 4; go_simp)
  have hS1031 : (fun (w' : World) => Blk w' nb 136 ndR.toArray) ((((((Wd.setCell ⟨g, 0, none⟩ (.int .u8 2)).setCell ⟨g, 1, none⟩ (.int .u8 237)).setCell ⟨g, 2, none⟩ (.int .u8 1)).setCell ⟨g, 3, none⟩ (.int .u8 0)).setCell ⟨g, 4, none⟩ (.int .u8 0))) := by exact Blk.far (by assumption) hne _
  refine hK _ _ hS1031 ?_
  clear hK K
  try (simp only [Act.put])
  have HR5 := hide (HR4.out.set_ 4 (.int .u8 0))
  refine wpAnyH_done (by kernel_rfl) ?_ _
  rotate_left
  exact allH_nil
  exact allH_nil
  exact allH_nil
  exact allH_nil
  exact allH_nil
  have HBV := hide (((((HBd.out.far hne (p := ⟨g, 0, none⟩) (.int .u8 2)).far hne (p := ⟨g, 1, none⟩) (.int .u8 237)).far hne (p := ⟨g, 2, none⟩) (.int .u8 1)).far hne (p := ⟨g, 3, none⟩) (.int .u8 0)).far hne (p := ⟨g, 4, none⟩) (.int .u8 0))
  have HPV := hide (((((HPd.out.far hnp (p := ⟨g, 0, none⟩) (.int .u8 2)).far hnp (p := ⟨g, 1, none⟩) (.int .u8 237)).far hnp (p := ⟨g, 2, none⟩) (.int .u8 1)).far hnp (p := ⟨g, 3, none⟩) (.int .u8 0)).far hnp (p := ⟨g, 4, none⟩) (.int .u8 0))
  have HXV := hide (((((HXd.out.setCell (p := ⟨g, 0, none⟩) hgw (.int .u8 2)).setCell (p := ⟨g, 1, none⟩) hgw (.int .u8 237)).setCell (p := ⟨g, 2, none⟩) hgw (.int .u8 1)).setCell (p := ⟨g, 3, none⟩) hgw (.int .u8 0)).setCell (p := ⟨g, 4, none⟩) hgw (.int .u8 0))
  have HRV := HR5
  clear HBd HPd HXd HR0 HR1 HR2 HR3 HR4 HR5
  generalize (((((Wd.setCell ⟨g, 0, none⟩ (.int .u8 2)).setCell ⟨g, 1, none⟩ (.int .u8 237)).setCell ⟨g, 2, none⟩ (.int .u8 1)).setCell ⟨g, 3, none⟩ (.int .u8 0)).setCell ⟨g, 4, none⟩ (.int .u8 0)) = V at *
  go_upto_region 11 with fail
  refine begin_held (fun (w' : World) => Blk w' nb 136 ndR.toArray) (by kernel_rfl) ?_
  have hS0 : (fun (w' : World) => Blk w' nb 136 ndR.toArray) (V.drew) := by exact HBV.out.drew
  have HR5 := hide HRV.out.drew
  have HXd := hide HXV.out.drew
  have HBd := hide HBV.out.drew
  have HPd := hide HPV.out.drew
  generalize V.drew = Vd at HR5 HXd HBd HPd hS0 ⊢
  refine takeH_op (i := 0) (d := some 53) (v := ?v2001) hS0 rfl (by kernel_rfl) (by kernel_rfl) (by kernel_rfl) (fun _ _ _ h => h) (fun oi ho => ?hy2001) ?rest2001
  case hy2001 => (simp only [List.getElem?_toArray, List.getElem?_cons_zero, Option.some.injEq] at ho; subst ho; refine Or.inl ⟨by rfl, fun w' _ => ?_⟩; go_simp; try (with_reducible rfl))
  simp only [Act.put, List.setIfInBounds_toArray, List.set_cons_zero, List.set_cons_succ]
  refine takeH_op (i := 1) (d := some 54) (v := ?v2002) hS0 rfl (by kernel_rfl) (by kernel_rfl) (by kernel_rfl) (fun _ _ _ h => h) (fun oi ho => ?hy2002) ?rest2002
  case hy2002 => (simp only [List.getElem?_toArray, List.getElem?_cons_succ, List.getElem?_cons_zero, Option.some.injEq] at ho; subst ho; refine Or.inl ⟨by rfl, fun w' _ => ?_⟩; go_simp; try (with_reducible rfl))
  simp only [Act.put, List.setIfInBounds_toArray, List.set_cons_zero, List.set_cons_succ]
  refine takeH_op (i := 2) (d := some 55) (v := ?v2003) hS0 rfl (by kernel_rfl) (by kernel_rfl) (by kernel_rfl) (fun _ _ _ h => h) (fun oi ho => ?hy2003) ?rest2003
  case hy2003 => (simp only [List.getElem?_toArray, List.getElem?_cons_succ, List.getElem?_cons_zero, Option.some.injEq] at ho; subst ho; refine Or.inl ⟨by rfl, fun w' _ => ?_⟩; go_simp; try (with_reducible rfl))
  simp only [Act.put, List.setIfInBounds_toArray, List.set_cons_zero, List.set_cons_succ]
  refine takeH_op (i := 3) (d := some 56) (v := ?v2004) hS0 rfl (by kernel_rfl) (by kernel_rfl) (by kernel_rfl) (fun _ _ _ h => h) (fun oi ho => ?hy2004) ?rest2004
  case hy2004 => (simp only [List.getElem?_toArray, List.getElem?_cons_succ, List.getElem?_cons_zero, Option.some.injEq] at ho; subst ho; refine Or.inl ⟨by rfl, fun w' _ => ?_⟩; go_simp; try (with_reducible rfl))
  simp only [Act.put, List.setIfInBounds_toArray, List.set_cons_zero, List.set_cons_succ]
  refine takeH_op (i := 4) (d := some 57) (v := ?v2005) hS0 rfl (by kernel_rfl) (by kernel_rfl) (by kernel_rfl) (fun _ _ _ h => h) (fun oi ho => ?hy2005) ?rest2005
  case hy2005 => (simp only [List.getElem?_toArray, List.getElem?_cons_succ, List.getElem?_cons_zero, Option.some.injEq] at ho; subst ho; refine Or.inl ⟨by rfl, fun w' _ => ?_⟩; go_simp; try (with_reducible rfl))
  simp only [Act.put, List.setIfInBounds_toArray, List.set_cons_zero, List.set_cons_succ]
  refine takeH_op (i := 5) (d := some 58) (v := ?v2006) hS0 rfl (by kernel_rfl) (by kernel_rfl) (by kernel_rfl) (fun _ _ _ h => h) (fun oi ho => ?hy2006) ?rest2006
  case hy2006 => (simp only [List.getElem?_toArray, List.getElem?_cons_succ, List.getElem?_cons_zero, Option.some.injEq] at ho; subst ho; refine Or.inl ⟨by rfl, fun w' hS' => ?_⟩; have k := hS'.cell 4; simp only [List.getElem?_toArray, List.getElem?_cons_zero, List.getElem?_cons_succ] at k; go_simp; try (with_reducible rfl))
  simp only [Act.put, List.setIfInBounds_toArray, List.set_cons_zero, List.set_cons_succ]
  refine takeH_op (i := 6) (d := some 59) (v := ?v2007) hS0 rfl (by kernel_rfl) (by kernel_rfl) (by kernel_rfl) (fun _ _ _ h => h) (fun oi ho => ?hy2007) ?rest2007
  case hy2007 => (simp only [List.getElem?_toArray, List.getElem?_cons_succ, List.getElem?_cons_zero, Option.some.injEq] at ho; subst ho; refine Or.inl ⟨by rfl, fun w' hS' => ?_⟩; skip; go_simp; try (with_reducible rfl))
  simp only [Act.put, List.setIfInBounds_toArray, List.set_cons_zero, List.set_cons_succ]
  refine takeH_op (i := 7) (d := some 60) (v := ?v2008) hS0 rfl (by kernel_rfl) (by kernel_rfl) (by kernel_rfl) (fun _ _ _ h => h) (fun oi ho => ?hy2008) ?rest2008
  case hy2008 => (simp only [List.getElem?_toArray, List.getElem?_cons_succ, List.getElem?_cons_zero, Option.some.injEq] at ho; subst ho; refine Or.inl ⟨by rfl, fun w' _ => ?_⟩; go_simp; try (with_reducible rfl))
  simp only [Act.put, List.setIfInBounds_toArray, List.set_cons_zero, List.set_cons_succ]
  refine takeH_op (i := 8) (d := some 61) (v := ?v2009) hS0 rfl (by kernel_rfl) (by kernel_rfl) (by kernel_rfl) (fun _ _ _ h => h) (fun oi ho => ?hy2009) ?rest2009
  case hy2009 => (simp only [List.getElem?_toArray, List.getElem?_cons_succ, List.getElem?_cons_zero, Option.some.injEq] at ho; subst ho; refine Or.inl ⟨by rfl, fun w' hS' => ?_⟩; have k := hS'.cell 4; simp only [List.getElem?_toArray, List.getElem?_cons_zero, List.getElem?_cons_succ] at k; go_simp; try (with_reducible rfl))
  simp only [Act.put, List.setIfInBounds_toArray, List.set_cons_zero, List.set_cons_succ]
  refine takeH_op (i := 9) (d := some 62) (v := ?v2010) hS0 rfl (by kernel_rfl) (by kernel_rfl) (by kernel_rfl) (fun _ _ _ h => h) (fun oi ho => ?hy2010) ?rest2010
  case hy2010 => (simp only [List.getElem?_toArray, List.getElem?_cons_succ, List.getElem?_cons_zero, Option.some.injEq] at ho; subst ho; refine Or.inl ⟨by rfl, fun w' _ => ?_⟩; go_simp; try (with_reducible rfl))
  simp only [Act.put, List.setIfInBounds_toArray, List.set_cons_zero, List.set_cons_succ]
  refine takeH_op (i := 10) (d := some 63) (v := ?v2011) hS0 rfl (by kernel_rfl) (by kernel_rfl) (by kernel_rfl) (fun _ _ _ h => h) (fun oi ho => ?hy2011) ?rest2011
  case hy2011 => (simp only [List.getElem?_toArray, List.getElem?_cons_succ, List.getElem?_cons_zero, Option.some.injEq] at ho; subst ho; refine Or.inl ⟨by rfl, fun w' hS' => ?_⟩; skip; go_simp; try (with_reducible rfl))
  simp only [Act.put, List.setIfInBounds_toArray, List.set_cons_zero, List.set_cons_succ]
  refine takeH_op (i := 11) (d := some 64) (v := ?v2012) hS0 rfl (by kernel_rfl) (by kernel_rfl) (by kernel_rfl) (fun _ _ _ h => h) (fun oi ho => ?hy2012) ?rest2012
  case hy2012 => (simp only [List.getElem?_toArray, List.getElem?_cons_succ, List.getElem?_cons_zero, Option.some.injEq] at ho; subst ho; refine Or.inl ⟨by rfl, fun w' _ => ?_⟩; go_simp; try (with_reducible rfl))
  simp only [Act.put, List.setIfInBounds_toArray, List.set_cons_zero, List.set_cons_succ]
  refine takeH_op (i := 12) (d := some 65) (v := ?v2013) hS0 rfl (by kernel_rfl) (by kernel_rfl) (by kernel_rfl) (fun _ _ _ h => h) (fun oi ho => ?hy2013) ?rest2013
  case hy2013 => (simp only [List.getElem?_toArray, List.getElem?_cons_succ, List.getElem?_cons_zero, Option.some.injEq] at ho; subst ho; refine Or.inl ⟨by rfl, fun w' hS' => ?_⟩; have k := hS'.cell 5; simp only [List.getElem?_toArray, List.getElem?_cons_zero, List.getElem?_cons_succ] at k; go_simp; try (with_reducible rfl))
  simp only [Act.put, List.setIfInBounds_toArray, List.set_cons_zero, List.set_cons_succ]
  refine takeH_op (i := 13) (d := some 66) (v := ?v2014) hS0 rfl (by kernel_rfl) (by kernel_rfl) (by kernel_rfl) (fun _ _ _ h => h) (fun oi ho => ?hy2014) ?rest2014
  case hy2014 => (simp only [List.getElem?_toArray, List.getElem?_cons_succ, List.getElem?_cons_zero, Option.some.injEq] at ho; subst ho; refine Or.inl ⟨by rfl, fun w' hS' => ?_⟩; skip; go_simp; try (with_reducible rfl))
  simp only [Act.put, List.setIfInBounds_toArray, List.set_cons_zero, List.set_cons_succ]
  refine takeH_op (i := 14) (d := some 67) (v := ?v2015) hS0 rfl (by kernel_rfl) (by kernel_rfl) (by kernel_rfl) (fun _ _ _ h => h) (fun oi ho => ?hy2015) ?rest2015
  case hy2015 => (simp only [List.getElem?_toArray, List.getElem?_cons_succ, List.getElem?_cons_zero, Option.some.injEq] at ho; subst ho; refine Or.inl ⟨by rfl, fun w' _ => ?_⟩; go_simp; try (with_reducible rfl))
  simp only [Act.put, List.setIfInBounds_toArray, List.set_cons_zero, List.set_cons_succ]
  refine takeH_op (i := 15) (d := some 68) (v := ?v2016) hS0 rfl (by kernel_rfl) (by kernel_rfl) (by kernel_rfl) (fun _ _ _ h => h) (fun oi ho => ?hy2016) ?rest2016
  case hy2016 => (simp only [List.getElem?_toArray, List.getElem?_cons_succ, List.getElem?_cons_zero, Option.some.injEq] at ho; subst ho; refine Or.inl ⟨by rfl, fun w' hS' => ?_⟩; have k := hS'.cell 6; simp only [List.getElem?_toArray, List.getElem?_cons_zero, List.getElem?_cons_succ] at k; go_simp; try (with_reducible rfl))
  simp only [Act.put, List.setIfInBounds_toArray, List.set_cons_zero, List.set_cons_succ]
  refine takeH_op (i := 16) (d := some 69) (v := ?v2017) hS0 rfl (by kernel_rfl) (by kernel_rfl) (by kernel_rfl) (fun _ _ _ h => h) (fun oi ho => ?hy2017) ?rest2017
  case hy2017 => (simp only [List.getElem?_toArray, List.getElem?_cons_succ, List.getElem?_cons_zero, Option.some.injEq] at ho; subst ho; refine Or.inl ⟨by rfl, fun w' hS' => ?_⟩; skip; go_simp; try (with_reducible rfl))
  simp only [Act.put, List.setIfInBounds_toArray, List.set_cons_zero, List.set_cons_succ]
  refine takeH_op (i := 17) (d := some 70) (v := ?v2018) hS0 rfl (by kernel_rfl) (by kernel_rfl) (by kernel_rfl) (fun _ _ _ h => h) (fun oi ho => ?hy2018) ?rest2018
  case hy2018 => (simp only [List.getElem?_toArray, List.getElem?_cons_succ, List.getElem?_cons_zero, Option.some.injEq] at ho; subst ho; refine Or.inl ⟨by rfl, fun w' _ => ?_⟩; go_simp; try (with_reducible rfl))
  simp only [Act.put, List.setIfInBounds_toArray, List.set_cons_zero, List.set_cons_succ]
  refine readyH (rs := [18]) (by kernel_rfl) (by simp) ?_
  refine consH_op (by decide) (fun o ho K hK => ?_) ?_
  simp only [List.getElem?_toArray, List.getElem?_cons_succ, List.getElem?_cons_zero, Option.some.injEq] at ho
  subst ho
  (have f := HR5.out.frozen 5; have c : Vd.cell? ⟨g, 5, none⟩ = some (.int .u8 0) := HR5.out.cell 5; go_simp)
  have hS2019 : (fun (w' : World) => Blk w' nb 136 ndR.toArray) ((Vd.setCell ⟨g, 5, none⟩ (.int .u8 0))) := by exact Blk.far (by assumption) hne _
  refine hK _ _ hS2019 ?_
  clear hK K
  try (simp only [Act.put])
  have HR6 := hide (HR5.out.set_ 5 (.int .u8 0))
  refine takeH_op (i := 19) (d := some 71) (v := ?v2020) hS2019 rfl (by kernel_rfl) (by kernel_rfl) (by kernel_rfl) (fun _ _ _ h => h) (fun oi ho => ?hy2020) ?rest2020
  case hy2020 => (simp only [List.getElem?_toArray, List.getElem?_cons_succ, List.getElem?_cons_zero, Option.some.injEq] at ho; subst ho; refine Or.inl ⟨by rfl, fun w' _ => ?_⟩; go_simp; try (with_reducible rfl))
  simp only [Act.put, List.setIfInBounds_toArray, List.set_cons_zero, List.set_cons_succ]
  refine readyH (rs := [20]) (by kernel_rfl) (by simp) ?_
  refine consH_op (by decide) (fun o ho K hK => ?_) ?_
  simp only [List.getElem?_toArray, List.getElem?_cons_succ, List.getElem?_cons_zero, Option.some.injEq] at ho
  subst ho
  (have f := HR5.out.frozen 6; have c : Vd.cell? ⟨g, 6, none⟩ = some (.int .u8 0) := HR5.out.cell 6; go_simp)
  have hS2021 : (fun (w' : World) => Blk w' nb 136 ndR.toArray) (((Vd.setCell ⟨g, 5, none⟩ (.int .u8 0)).setCell ⟨g, 6, none⟩ (.int .u8 0))) := by exact Blk.far (by assumption) hne _
  refine hK _ _ hS2021 ?_
  clear hK K
  try (simp only [Act.put])
  have HR7 := hide (HR6.out.set_ 6 (.int .u8 0))
  refine takeH_op (i := 21) (d := some 72) (v := ?v2022) hS2021 rfl (by kernel_rfl) (by kernel_rfl) (by kernel_rfl) (fun _ _ _ h => h) (fun oi ho => ?hy2022) ?rest2022
  case hy2022 => (simp only [List.getElem?_toArray, List.getElem?_cons_succ, List.getElem?_cons_zero, Option.some.injEq] at ho; subst ho; refine Or.inl ⟨by rfl, fun w' _ => ?_⟩; go_simp; try (with_reducible rfl))
  simp only [Act.put, List.setIfInBounds_toArray, List.set_cons_zero, List.set_cons_succ]
  refine readyH (rs := [22]) (by kernel_rfl) (by simp) ?_
  refine consH_op (by decide) (fun o ho K hK => ?_) ?_
  simp only [List.getElem?_toArray, List.getElem?_cons_succ, List.getElem?_cons_zero, Option.some.injEq] at ho
  subst ho
  (have f := HR5.out.frozen 7; have c : Vd.cell? ⟨g, 7, none⟩ = some (.int .u8 0) := HR5.out.cell 7; go_simp)
  have hS2023 : (fun (w' : World) => Blk w' nb 136 ndR.toArray) ((((Vd.setCell ⟨g, 5, none⟩ (.int .u8 0)).setCell ⟨g, 6, none⟩ (.int .u8 0)).setCell ⟨g, 7, none⟩ (.int .u8 1))) := by exact Blk.far (by assumption) hne _
  refine hK _ _ hS2023 ?_
  clear hK K
  try (simp only [Act.put])
  have HR8 := hide (HR7.out.set_ 7 (.int .u8 1))
  refine takeH_op (i := 23) (d := some 73) (v := ?v2024) hS2023 rfl (by kernel_rfl) (by kernel_rfl) (by kernel_rfl) (fun _ _ _ h => h) (fun oi ho => ?hy2024) ?rest2024
  case hy2024 => (simp only [List.getElem?_toArray, List.getElem?_cons_succ, List.getElem?_cons_zero, Option.some.injEq] at ho; subst ho; refine Or.inl ⟨by rfl, fun w' _ => ?_⟩; go_simp; try (with_reducible rfl))
  simp only [Act.put, List.setIfInBounds_toArray, List.set_cons_zero, List.set_cons_succ]
  refine readyH (rs := [24]) (by kernel_rfl) (by simp) ?_
  refine consH_op (by decide) (fun o ho K hK => ?_) ?_
  simp only [List.getElem?_toArray, List.getElem?_cons_succ, List.getElem?_cons_zero, Option.some.injEq] at ho
  subst ho
  (have f := HR5.out.frozen 8; have c : Vd.cell? ⟨g, 8, none⟩ = some (.int .u8 0) := HR5.out.cell 8; go_simp)
  have hS2025 : (fun (w' : World) => Blk w' nb 136 ndR.toArray) (((((Vd.setCell ⟨g, 5, none⟩ (.int .u8 0)).setCell ⟨g, 6, none⟩ (.int .u8 0)).setCell ⟨g, 7, none⟩ (.int .u8 1)).setCell ⟨g, 8, none⟩ (.int .u8 1))) := by exact Blk.far (by assumption) hne _
  refine hK _ _ hS2025 ?_
  clear hK K
  try (simp only [Act.put])
  have HR9 := hide (HR8.out.set_ 8 (.int .u8 1))
  refine wpAnyH_done (by kernel_rfl) ?_ _
  rotate_left
  exact allH_nil
  exact allH_nil
  exact allH_nil
  exact allH_nil
  have HBU := hide ((((HBd.out.far hne (p := ⟨g, 5, none⟩) (.int .u8 0)).far hne (p := ⟨g, 6, none⟩) (.int .u8 0)).far hne (p := ⟨g, 7, none⟩) (.int .u8 1)).far hne (p := ⟨g, 8, none⟩) (.int .u8 1))
  have HPU := hide ((((HPd.out.far hnp (p := ⟨g, 5, none⟩) (.int .u8 0)).far hnp (p := ⟨g, 6, none⟩) (.int .u8 0)).far hnp (p := ⟨g, 7, none⟩) (.int .u8 1)).far hnp (p := ⟨g, 8, none⟩) (.int .u8 1))
  have HXU := hide ((((HXd.out.setCell (p := ⟨g, 5, none⟩) hgw (.int .u8 0)).setCell (p := ⟨g, 6, none⟩) hgw (.int .u8 0)).setCell (p := ⟨g, 7, none⟩) hgw (.int .u8 1)).setCell (p := ⟨g, 8, none⟩) hgw (.int .u8 1))
  have HRU := HR9
  clear HBd HPd HXd HR5 HR6 HR7 HR8 HR9
  generalize ((((Vd.setCell ⟨g, 5, none⟩ (.int .u8 0)).setCell ⟨g, 6, none⟩ (.int .u8 0)).setCell ⟨g, 7, none⟩ (.int .u8 1)).setCell ⟨g, 8, none⟩ (.int .u8 1)) = U at *
  have HRA := hide (show Blk U g 5 (bytesV rootB).toArray from HRU.out)
  have hsz1 : (Tryz.prog.info? 5).map (·.size) = some 1 := by kernel_rfl
  have hcp : ∀ ty, (Builtin.copy_ #[29, 29] ty #[.slice (some ⟨g, 9, none⟩) 23 23, .slice (some ⟨gp, 0, none⟩) 16 16]).run Tryz.prog U = .ok (goInt (Nat.min 16 23)) (U.setRow g (bytesV rootB).toArray) := fun ty => by
    have := run_copy_rowN (P := Tryz.prog) U 29 29 ty 5 1 g 9 23 23 ⟨gp, 0, none⟩ 16 16 (bytesV rootB).toArray 5 (bytesV (zB 16)) Tryz.underlying29 hsz1 HRA.out (by rw [bytesV_length, zB_len]; rfl) (fun j v hj => by rw [add_lit, Nat.zero_add, HPU.out.cell, List.getElem?_toArray]; exact hj) (by rw [bytesV_length, zB_len, List.size_toArray, bytesV_length]; decide) (fun v hv => by obtain ⟨z, hz, rfl⟩ := List.mem_map.1 hv; rfl)
    exact this
  have HRZ := hide (setRow_blk HRA.out (bytesV rootB).toArray)
  have HXZ := hide (HXU.out.grown (setRow_grown (World.grownBy.refl U _) (bytesV rootB).toArray : U.grownBy (U.setRow g (bytesV rootB).toArray) (some g)) (fun j hj => by injection hj with hj; subst hj; exact hgw))
  clear hsz1
  go_wp2_with (at_builtin; refine wpList_copy_eqN _ rfl _ _ 29 29 rfl _ _ rfl rfl (hcp _) ?_)
  go_ret2
  exact ⟨_, rfl, hgw, HRZ.out, HXZ.out⟩
end
end Go.Proofs.YthmojneobkaolaaGreatDoor

namespace Go.Proofs.YthmojneobkaolaaGreatDoor
open Go.RowKit
set_option linter.unusedVariables false

def rC (j : Nat) : Int := if j = 0 then 2 else if j = 1 then 237 else if j = 2 then 1 else if j = 7 then 1 else if j = 8 then 1 else 0
def zC (_ : Nat) : Int := 0
theorem ndR_one : ndR.toArray.all (·.oneCell') = true := by simp [ndR, Value.oneCell']
theorem ndZ_one : ndZ.toArray.all (·.oneCell') = true := by simp [ndZ, Value.oneCell']
theorem Reads.sub {w : World} {B sb so n : Nat} {xs : List Value} (h : Reads w B 1 (some ⟨sb, so, none⟩) n xs) (o k : Nat) (hk : o + k ≤ n) : Reads w B 1 (some ⟨sb, so + o, none⟩) k ((xs.drop o).take k) := by
  have hl := h.1
  refine ⟨by rw [List.length_take, List.length_drop, hl]; omega, fun hn => ?_⟩
  obtain ⟨ad, e, hb, hc⟩ := h.2 (by omega)
  injection e with e
  subst e
  refine ⟨_, rfl, hb, fun j u hu => ?_⟩
  rw [List.getElem?_take] at hu
  split at hu
  · rw [List.getElem?_drop] at hu
    have := hc _ u hu
    rw [add_lit] at this ⊢
    rwa [Nat.add_assoc]
  · cases hu
theorem root_tail : ((bytesV rootB).drop 9).take 16 = bytesV (zB 16) := rfl
theorem zero_tail : ((bytesV (zB 32)).drop 9).take 16 = bytesV (zB 16) := rfl
section
variable {w : World}
set_option maxHeartbeats 4000000 in
set_option maxRecDepth 100000 in
theorem unpackr_ok (sb so c : Nat) (hc : 32 ≤ c) (w : World) (hr : Reads w w.heap.size 1 (some ⟨sb, so, none⟩) 32 (bytesV rootB)) : Calls Tryz.prog 127 #[.slice (some ⟨sb, so, none⟩) 32 c] w fun e w' => e = .returned (.tuple #[.agg ndR.toArray, .int .i64 0]) ∧ Ext w w' := by
  have HX := hide ((Ext.refl w).alloc (.cells ndZ.toArray 136))
  have HB0 := hide (Blk.new w 136 ndZ.toArray)
  have HR := hide hr
  have HC := hide hc
  clear hr hc
  go_enter Tryz.func127, Tryz.ntmps127
  go_upto_region 3 with fail
  obtain ⟨g, hg⟩ : ∃ g, w.heap.size = g := ⟨_, rfl⟩
  have HG := hide (show w.heap.size ≤ g by omega)
  rw [hg] at HB0 ⊢
  clear hg
  generalize w.alloc _ = W at *
  have hcs : ∀ j, j < 9 → W.drew.cell? ⟨sb, so + j, none⟩ = some (.int .u8 (rC j)) := by
    intro j hj
    obtain ⟨b', o', he, hlt, hcell⟩ := (HX.out.reads HR.out (Nat.le_refl _)).at1 (by omega)
    injection he with he
    injection he with he1 he2
    subst he1 he2
    show W.cell? _ = _
    rw [hcell j (by omega)]
    rcases (show j = 0 ∨ j = 1 ∨ j = 2 ∨ j = 3 ∨ j = 4 ∨ j = 5 ∨ j = 6 ∨ j = 7 ∨ j = 8 by omega) with rfl | rfl | rfl | rfl | rfl | rfl | rfl | rfl | rfl <;> rfl
  refine wp_region_pop_take (S := fun (w' : World) => ∀ j, j < 9 → w'.cell? ⟨sb, so + j, none⟩ = some (.int .u8 (rC j))) 42 rfl rfl (by kernel_rfl) (by kernel_rfl) (by exact hcs) (fun hS0 => ?_)
  simp only [List.take_succ_cons, List.take_zero]
  refine takeH_op (i := 0) (d := some 12) (v := ?v1001) hS0 rfl (by kernel_rfl) (by kernel_rfl) (by kernel_rfl) (fun _ _ _ h => h) (fun oi ho => ?hy1001) ?rest1001
  case hy1001 => (simp only [List.getElem?_toArray, List.getElem?_cons_zero, Option.some.injEq] at ho; subst ho; refine Or.inl ⟨by rfl, fun w' _ => ?_⟩; go_simp; try (with_reducible rfl))
  simp only [Act.put, List.setIfInBounds_toArray, List.set_cons_zero, List.set_cons_succ]
  refine takeH_op (i := 1) (d := some 13) (v := ?v1002) hS0 rfl (by kernel_rfl) (by kernel_rfl) (by kernel_rfl) (fun _ _ _ h => h) (fun oi ho => ?hy1002) ?rest1002
  case hy1002 => (simp only [List.getElem?_toArray, List.getElem?_cons_succ, List.getElem?_cons_zero, Option.some.injEq] at ho; subst ho; refine Or.inl ⟨by rfl, fun w' _ => ?_⟩; go_simp; try (with_reducible rfl))
  simp only [Act.put, List.setIfInBounds_toArray, List.set_cons_zero, List.set_cons_succ]
  refine takeH_op (i := 2) (d := some 14) (v := ?v1003) hS0 rfl (by kernel_rfl) (by kernel_rfl) (by kernel_rfl) (fun _ _ _ h => h) (fun oi ho => ?hy1003) ?rest1003
  case hy1003 => (simp only [List.getElem?_toArray, List.getElem?_cons_succ, List.getElem?_cons_zero, Option.some.injEq] at ho; subst ho; refine Or.inl ⟨by rfl, fun w' hS' => ?_⟩; have k : w'.cell? ⟨sb, so, none⟩ = some (.int .u8 2) := hS' 0 (by decide); go_simp; try (with_reducible rfl))
  simp only [Act.put, List.setIfInBounds_toArray, List.set_cons_zero, List.set_cons_succ]
  refine takeH_op (i := 3) (d := some 15) (v := ?v1004) hS0 rfl (by kernel_rfl) (by kernel_rfl) (by kernel_rfl) (fun _ _ _ h => h) (fun oi ho => ?hy1004) ?rest1004
  case hy1004 => (simp only [List.getElem?_toArray, List.getElem?_cons_succ, List.getElem?_cons_zero, Option.some.injEq] at ho; subst ho; refine Or.inl ⟨by rfl, fun w' hS' => ?_⟩; skip; go_simp; try (with_reducible rfl))
  simp only [Act.put, List.setIfInBounds_toArray, List.set_cons_zero, List.set_cons_succ]
  refine takeH_op (i := 4) (d := some 16) (v := ?v1005) hS0 rfl (by kernel_rfl) (by kernel_rfl) (by kernel_rfl) (fun _ _ _ h => h) (fun oi ho => ?hy1005) ?rest1005
  case hy1005 => (simp only [List.getElem?_toArray, List.getElem?_cons_succ, List.getElem?_cons_zero, Option.some.injEq] at ho; subst ho; refine Or.inl ⟨by rfl, fun w' _ => ?_⟩; go_simp; try (with_reducible rfl))
  simp only [Act.put, List.setIfInBounds_toArray, List.set_cons_zero, List.set_cons_succ]
  refine takeH_op (i := 5) (d := some 17) (v := ?v1006) hS0 rfl (by kernel_rfl) (by kernel_rfl) (by kernel_rfl) (fun _ _ _ h => h) (fun oi ho => ?hy1006) ?rest1006
  case hy1006 => (simp only [List.getElem?_toArray, List.getElem?_cons_succ, List.getElem?_cons_zero, Option.some.injEq] at ho; subst ho; refine Or.inl ⟨by rfl, fun w' _ => ?_⟩; go_simp; try (with_reducible rfl))
  simp only [Act.put, List.setIfInBounds_toArray, List.set_cons_zero, List.set_cons_succ]
  refine takeH_op (i := 6) (d := some 18) (v := ?v1007) hS0 rfl (by kernel_rfl) (by kernel_rfl) (by kernel_rfl) (fun _ _ _ h => h) (fun oi ho => ?hy1007) ?rest1007
  case hy1007 => (simp only [List.getElem?_toArray, List.getElem?_cons_succ, List.getElem?_cons_zero, Option.some.injEq] at ho; subst ho; refine Or.inl ⟨by rfl, fun w' hS' => ?_⟩; have k : w'.cell? ⟨sb, so + 1, none⟩ = some (.int .u8 237) := hS' 1 (by decide); go_simp; try (with_reducible rfl))
  simp only [Act.put, List.setIfInBounds_toArray, List.set_cons_zero, List.set_cons_succ]
  refine takeH_op (i := 7) (d := some 19) (v := ?v1008) hS0 rfl (by kernel_rfl) (by kernel_rfl) (by kernel_rfl) (fun _ _ _ h => h) (fun oi ho => ?hy1008) ?rest1008
  case hy1008 => (simp only [List.getElem?_toArray, List.getElem?_cons_succ, List.getElem?_cons_zero, Option.some.injEq] at ho; subst ho; refine Or.inl ⟨by rfl, fun w' hS' => ?_⟩; skip; go_simp; try (with_reducible rfl))
  simp only [Act.put, List.setIfInBounds_toArray, List.set_cons_zero, List.set_cons_succ]
  refine takeH_op (i := 8) (d := some 20) (v := ?v1009) hS0 rfl (by kernel_rfl) (by kernel_rfl) (by kernel_rfl) (fun _ _ _ h => h) (fun oi ho => ?hy1009) ?rest1009
  case hy1009 => (simp only [List.getElem?_toArray, List.getElem?_cons_succ, List.getElem?_cons_zero, Option.some.injEq] at ho; subst ho; refine Or.inl ⟨by rfl, fun w' _ => ?_⟩; go_simp; try (with_reducible rfl))
  simp only [Act.put, List.setIfInBounds_toArray, List.set_cons_zero, List.set_cons_succ]
  refine takeH_op (i := 9) (d := some 21) (v := ?v1010) hS0 rfl (by kernel_rfl) (by kernel_rfl) (by kernel_rfl) (fun _ _ _ h => h) (fun oi ho => ?hy1010) ?rest1010
  case hy1010 => (simp only [List.getElem?_toArray, List.getElem?_cons_succ, List.getElem?_cons_zero, Option.some.injEq] at ho; subst ho; refine Or.inl ⟨by rfl, fun w' _ => ?_⟩; go_simp; try (with_reducible rfl))
  simp only [Act.put, List.setIfInBounds_toArray, List.set_cons_zero, List.set_cons_succ]
  refine takeH_op (i := 10) (d := some 22) (v := ?v1011) hS0 rfl (by kernel_rfl) (by kernel_rfl) (by kernel_rfl) (fun _ _ _ h => h) (fun oi ho => ?hy1011) ?rest1011
  case hy1011 => (simp only [List.getElem?_toArray, List.getElem?_cons_succ, List.getElem?_cons_zero, Option.some.injEq] at ho; subst ho; refine Or.inl ⟨by rfl, fun w' hS' => ?_⟩; have k : w'.cell? ⟨sb, so + 2, none⟩ = some (.int .u8 1) := hS' 2 (by decide); go_simp; try (with_reducible rfl))
  simp only [Act.put, List.setIfInBounds_toArray, List.set_cons_zero, List.set_cons_succ]
  refine takeH_op (i := 11) (d := some 23) (v := ?v1012) hS0 rfl (by kernel_rfl) (by kernel_rfl) (by kernel_rfl) (fun _ _ _ h => h) (fun oi ho => ?hy1012) ?rest1012
  case hy1012 => (simp only [List.getElem?_toArray, List.getElem?_cons_succ, List.getElem?_cons_zero, Option.some.injEq] at ho; subst ho; refine Or.inl ⟨by rfl, fun w' hS' => ?_⟩; skip; go_simp; try (with_reducible rfl))
  simp only [Act.put, List.setIfInBounds_toArray, List.set_cons_zero, List.set_cons_succ]
  refine takeH_op (i := 12) (d := some 24) (v := ?v1013) hS0 rfl (by kernel_rfl) (by kernel_rfl) (by kernel_rfl) (fun _ _ _ h => h) (fun oi ho => ?hy1013) ?rest1013
  case hy1013 => (simp only [List.getElem?_toArray, List.getElem?_cons_succ, List.getElem?_cons_zero, Option.some.injEq] at ho; subst ho; refine Or.inl ⟨by rfl, fun w' _ => ?_⟩; go_simp; try (with_reducible rfl))
  simp only [Act.put, List.setIfInBounds_toArray, List.set_cons_zero, List.set_cons_succ]
  refine takeH_op (i := 13) (d := some 25) (v := ?v1014) hS0 rfl (by kernel_rfl) (by kernel_rfl) (by kernel_rfl) (fun _ _ _ h => h) (fun oi ho => ?hy1014) ?rest1014
  case hy1014 => (simp only [List.getElem?_toArray, List.getElem?_cons_succ, List.getElem?_cons_zero, Option.some.injEq] at ho; subst ho; refine Or.inl ⟨by rfl, fun w' _ => ?_⟩; go_simp; try (with_reducible rfl))
  simp only [Act.put, List.setIfInBounds_toArray, List.set_cons_zero, List.set_cons_succ]
  refine takeH_op (i := 14) (d := some 26) (v := ?v1015) hS0 rfl (by kernel_rfl) (by kernel_rfl) (by kernel_rfl) (fun _ _ _ h => h) (fun oi ho => ?hy1015) ?rest1015
  case hy1015 => (simp only [List.getElem?_toArray, List.getElem?_cons_succ, List.getElem?_cons_zero, Option.some.injEq] at ho; subst ho; refine Or.inl ⟨by rfl, fun w' _ => ?_⟩; go_simp; try (with_reducible rfl))
  simp only [Act.put, List.setIfInBounds_toArray, List.set_cons_zero, List.set_cons_succ]
  refine takeH_op (i := 15) (d := some 27) (v := ?v1016) hS0 rfl (by kernel_rfl) (by kernel_rfl) (by kernel_rfl) (fun _ _ _ h => h) (fun oi ho => ?hy1016) ?rest1016
  case hy1016 => (simp only [List.getElem?_toArray, List.getElem?_cons_succ, List.getElem?_cons_zero, Option.some.injEq] at ho; subst ho; refine Or.inl ⟨by rfl, fun w' _ => ?_⟩; go_simp; try (with_reducible rfl))
  simp only [Act.put, List.setIfInBounds_toArray, List.set_cons_zero, List.set_cons_succ]
  refine takeH_op (i := 16) (d := some 28) (v := ?v1017) hS0 rfl (by kernel_rfl) (by kernel_rfl) (by kernel_rfl) (fun _ _ _ h => h) (fun oi ho => ?hy1017) ?rest1017
  case hy1017 => (simp only [List.getElem?_toArray, List.getElem?_cons_succ, List.getElem?_cons_zero, Option.some.injEq] at ho; subst ho; refine Or.inl ⟨by rfl, fun w' hS' => ?_⟩; have k : w'.cell? ⟨sb, so + 3, none⟩ = some (.int .u8 0) := hS' 3 (by decide); go_simp; try (with_reducible rfl))
  simp only [Act.put, List.setIfInBounds_toArray, List.set_cons_zero, List.set_cons_succ]
  refine takeH_op (i := 17) (d := some 29) (v := ?v1018) hS0 rfl (by kernel_rfl) (by kernel_rfl) (by kernel_rfl) (fun _ _ _ h => h) (fun oi ho => ?hy1018) ?rest1018
  case hy1018 => (simp only [List.getElem?_toArray, List.getElem?_cons_succ, List.getElem?_cons_zero, Option.some.injEq] at ho; subst ho; refine Or.inl ⟨by rfl, fun w' hS' => ?_⟩; skip; go_simp; try (with_reducible rfl))
  simp only [Act.put, List.setIfInBounds_toArray, List.set_cons_zero, List.set_cons_succ]
  refine takeH_op (i := 18) (d := some 30) (v := ?v1019) hS0 rfl (by kernel_rfl) (by kernel_rfl) (by kernel_rfl) (fun _ _ _ h => h) (fun oi ho => ?hy1019) ?rest1019
  case hy1019 => (simp only [List.getElem?_toArray, List.getElem?_cons_succ, List.getElem?_cons_zero, Option.some.injEq] at ho; subst ho; refine Or.inl ⟨by rfl, fun w' _ => ?_⟩; go_simp; try (with_reducible rfl))
  simp only [Act.put, List.setIfInBounds_toArray, List.set_cons_zero, List.set_cons_succ]
  refine takeH_op (i := 19) (d := some 31) (v := ?v1020) hS0 rfl (by kernel_rfl) (by kernel_rfl) (by kernel_rfl) (fun _ _ _ h => h) (fun oi ho => ?hy1020) ?rest1020
  case hy1020 => (simp only [List.getElem?_toArray, List.getElem?_cons_succ, List.getElem?_cons_zero, Option.some.injEq] at ho; subst ho; refine Or.inl ⟨by rfl, fun w' _ => ?_⟩; go_simp; try (with_reducible rfl))
  simp only [Act.put, List.setIfInBounds_toArray, List.set_cons_zero, List.set_cons_succ]
  refine takeH_op (i := 20) (d := some 32) (v := ?v1021) hS0 rfl (by kernel_rfl) (by kernel_rfl) (by kernel_rfl) (fun _ _ _ h => h) (fun oi ho => ?hy1021) ?rest1021
  case hy1021 => (simp only [List.getElem?_toArray, List.getElem?_cons_succ, List.getElem?_cons_zero, Option.some.injEq] at ho; subst ho; refine Or.inl ⟨by rfl, fun w' hS' => ?_⟩; have k : w'.cell? ⟨sb, so + 4, none⟩ = some (.int .u8 0) := hS' 4 (by decide); go_simp; try (with_reducible rfl))
  simp only [Act.put, List.setIfInBounds_toArray, List.set_cons_zero, List.set_cons_succ]
  refine takeH_op (i := 21) (d := some 33) (v := ?v1022) hS0 rfl (by kernel_rfl) (by kernel_rfl) (by kernel_rfl) (fun _ _ _ h => h) (fun oi ho => ?hy1022) ?rest1022
  case hy1022 => (simp only [List.getElem?_toArray, List.getElem?_cons_succ, List.getElem?_cons_zero, Option.some.injEq] at ho; subst ho; refine Or.inl ⟨by rfl, fun w' hS' => ?_⟩; skip; go_simp; try (with_reducible rfl))
  simp only [Act.put, List.setIfInBounds_toArray, List.set_cons_zero, List.set_cons_succ]
  refine takeH_op (i := 22) (d := some 34) (v := ?v1023) hS0 rfl (by kernel_rfl) (by kernel_rfl) (by kernel_rfl) (fun _ _ _ h => h) (fun oi ho => ?hy1023) ?rest1023
  case hy1023 => (simp only [List.getElem?_toArray, List.getElem?_cons_succ, List.getElem?_cons_zero, Option.some.injEq] at ho; subst ho; refine Or.inl ⟨by rfl, fun w' _ => ?_⟩; go_simp; try (with_reducible rfl))
  simp only [Act.put, List.setIfInBounds_toArray, List.set_cons_zero, List.set_cons_succ]
  refine takeH_op (i := 23) (d := some 35) (v := ?v1024) hS0 rfl (by kernel_rfl) (by kernel_rfl) (by kernel_rfl) (fun _ _ _ h => h) (fun oi ho => ?hy1024) ?rest1024
  case hy1024 => (simp only [List.getElem?_toArray, List.getElem?_cons_succ, List.getElem?_cons_zero, Option.some.injEq] at ho; subst ho; refine Or.inl ⟨by rfl, fun w' _ => ?_⟩; go_simp; try (with_reducible rfl))
  simp only [Act.put, List.setIfInBounds_toArray, List.set_cons_zero, List.set_cons_succ]
  refine takeH_op (i := 24) (d := some 36) (v := ?v1025) hS0 rfl (by kernel_rfl) (by kernel_rfl) (by kernel_rfl) (fun _ _ _ h => h) (fun oi ho => ?hy1025) ?rest1025
  case hy1025 => (simp only [List.getElem?_toArray, List.getElem?_cons_succ, List.getElem?_cons_zero, Option.some.injEq] at ho; subst ho; refine Or.inl ⟨by rfl, fun w' hS' => ?_⟩; have k : w'.cell? ⟨sb, so + 5, none⟩ = some (.int .u8 0) := hS' 5 (by decide); go_simp; try (with_reducible rfl))
  simp only [Act.put, List.setIfInBounds_toArray, List.set_cons_zero, List.set_cons_succ]
  refine takeH_op (i := 25) (d := some 37) (v := ?v1026) hS0 rfl (by kernel_rfl) (by kernel_rfl) (by kernel_rfl) (fun _ _ _ h => h) (fun oi ho => ?hy1026) ?rest1026
  case hy1026 => (simp only [List.getElem?_toArray, List.getElem?_cons_succ, List.getElem?_cons_zero, Option.some.injEq] at ho; subst ho; refine Or.inl ⟨by rfl, fun w' hS' => ?_⟩; skip; go_simp; try (with_reducible rfl))
  simp only [Act.put, List.setIfInBounds_toArray, List.set_cons_zero, List.set_cons_succ]
  refine takeH_op (i := 26) (d := some 38) (v := ?v1027) hS0 rfl (by kernel_rfl) (by kernel_rfl) (by kernel_rfl) (fun _ _ _ h => h) (fun oi ho => ?hy1027) ?rest1027
  case hy1027 => (simp only [List.getElem?_toArray, List.getElem?_cons_succ, List.getElem?_cons_zero, Option.some.injEq] at ho; subst ho; refine Or.inl ⟨by rfl, fun w' _ => ?_⟩; go_simp; try (with_reducible rfl))
  simp only [Act.put, List.setIfInBounds_toArray, List.set_cons_zero, List.set_cons_succ]
  refine takeH_op (i := 27) (d := some 39) (v := ?v1028) hS0 rfl (by kernel_rfl) (by kernel_rfl) (by kernel_rfl) (fun _ _ _ h => h) (fun oi ho => ?hy1028) ?rest1028
  case hy1028 => (simp only [List.getElem?_toArray, List.getElem?_cons_succ, List.getElem?_cons_zero, Option.some.injEq] at ho; subst ho; refine Or.inl ⟨by rfl, fun w' _ => ?_⟩; go_simp; try (with_reducible rfl))
  simp only [Act.put, List.setIfInBounds_toArray, List.set_cons_zero, List.set_cons_succ]
  refine takeH_op (i := 28) (d := some 40) (v := ?v1029) hS0 rfl (by kernel_rfl) (by kernel_rfl) (by kernel_rfl) (fun _ _ _ h => h) (fun oi ho => ?hy1029) ?rest1029
  case hy1029 => (simp only [List.getElem?_toArray, List.getElem?_cons_succ, List.getElem?_cons_zero, Option.some.injEq] at ho; subst ho; refine Or.inl ⟨by rfl, fun w' hS' => ?_⟩; have k : w'.cell? ⟨sb, so + 6, none⟩ = some (.int .u8 0) := hS' 6 (by decide); go_simp; try (with_reducible rfl))
  simp only [Act.put, List.setIfInBounds_toArray, List.set_cons_zero, List.set_cons_succ]
  refine takeH_op (i := 29) (d := some 41) (v := ?v1030) hS0 rfl (by kernel_rfl) (by kernel_rfl) (by kernel_rfl) (fun _ _ _ h => h) (fun oi ho => ?hy1030) ?rest1030
  case hy1030 => (simp only [List.getElem?_toArray, List.getElem?_cons_succ, List.getElem?_cons_zero, Option.some.injEq] at ho; subst ho; refine Or.inl ⟨by rfl, fun w' hS' => ?_⟩; skip; go_simp; try (with_reducible rfl))
  simp only [Act.put, List.setIfInBounds_toArray, List.set_cons_zero, List.set_cons_succ]
  refine takeH_op (i := 30) (d := some 42) (v := ?v1031) hS0 rfl (by kernel_rfl) (by kernel_rfl) (by kernel_rfl) (fun _ _ _ h => h) (fun oi ho => ?hy1031) ?rest1031
  case hy1031 => (simp only [List.getElem?_toArray, List.getElem?_cons_succ, List.getElem?_cons_zero, Option.some.injEq] at ho; subst ho; refine Or.inl ⟨by rfl, fun w' _ => ?_⟩; go_simp; try (with_reducible rfl))
  simp only [Act.put, List.setIfInBounds_toArray, List.set_cons_zero, List.set_cons_succ]
  refine takeH_op (i := 31) (d := some 43) (v := ?v1032) hS0 rfl (by kernel_rfl) (by kernel_rfl) (by kernel_rfl) (fun _ _ _ h => h) (fun oi ho => ?hy1032) ?rest1032
  case hy1032 => (simp only [List.getElem?_toArray, List.getElem?_cons_succ, List.getElem?_cons_zero, Option.some.injEq] at ho; subst ho; refine Or.inl ⟨by rfl, fun w' _ => ?_⟩; go_simp; try (with_reducible rfl))
  simp only [Act.put, List.setIfInBounds_toArray, List.set_cons_zero, List.set_cons_succ]
  refine takeH_op (i := 32) (d := some 44) (v := ?v1033) hS0 rfl (by kernel_rfl) (by kernel_rfl) (by kernel_rfl) (fun _ _ _ h => h) (fun oi ho => ?hy1033) ?rest1033
  case hy1033 => (simp only [List.getElem?_toArray, List.getElem?_cons_succ, List.getElem?_cons_zero, Option.some.injEq] at ho; subst ho; refine Or.inl ⟨by rfl, fun w' _ => ?_⟩; go_simp; try (with_reducible rfl))
  simp only [Act.put, List.setIfInBounds_toArray, List.set_cons_zero, List.set_cons_succ]
  refine takeH_op (i := 33) (d := some 45) (v := ?v1034) hS0 rfl (by kernel_rfl) (by kernel_rfl) (by kernel_rfl) (fun _ _ _ h => h) (fun oi ho => ?hy1034) ?rest1034
  case hy1034 => (simp only [List.getElem?_toArray, List.getElem?_cons_succ, List.getElem?_cons_zero, Option.some.injEq] at ho; subst ho; refine Or.inl ⟨by rfl, fun w' _ => ?_⟩; go_simp; try (with_reducible rfl))
  simp only [Act.put, List.setIfInBounds_toArray, List.set_cons_zero, List.set_cons_succ]
  refine takeH_op (i := 34) (d := some 46) (v := ?v1035) hS0 rfl (by kernel_rfl) (by kernel_rfl) (by kernel_rfl) (fun _ _ _ h => h) (fun oi ho => ?hy1035) ?rest1035
  case hy1035 => (simp only [List.getElem?_toArray, List.getElem?_cons_succ, List.getElem?_cons_zero, Option.some.injEq] at ho; subst ho; refine Or.inl ⟨by rfl, fun w' hS' => ?_⟩; have k : w'.cell? ⟨sb, so + 7, none⟩ = some (.int .u8 1) := hS' 7 (by decide); go_simp; try (with_reducible rfl))
  simp only [Act.put, List.setIfInBounds_toArray, List.set_cons_zero, List.set_cons_succ]
  refine takeH_op (i := 35) (d := some 47) (v := ?v1036) hS0 rfl (by kernel_rfl) (by kernel_rfl) (by kernel_rfl) (fun _ _ _ h => h) (fun oi ho => ?hy1036) ?rest1036
  case hy1036 => (simp only [List.getElem?_toArray, List.getElem?_cons_succ, List.getElem?_cons_zero, Option.some.injEq] at ho; subst ho; refine Or.inl ⟨by rfl, fun w' hS' => ?_⟩; skip; go_simp; try (with_reducible rfl))
  simp only [Act.put, List.setIfInBounds_toArray, List.set_cons_zero, List.set_cons_succ]
  refine takeH_op (i := 36) (d := some 48) (v := ?v1037) hS0 rfl (by kernel_rfl) (by kernel_rfl) (by kernel_rfl) (fun _ _ _ h => h) (fun oi ho => ?hy1037) ?rest1037
  case hy1037 => (simp only [List.getElem?_toArray, List.getElem?_cons_succ, List.getElem?_cons_zero, Option.some.injEq] at ho; subst ho; refine Or.inl ⟨by rfl, fun w' _ => ?_⟩; go_simp; try (with_reducible rfl))
  simp only [Act.put, List.setIfInBounds_toArray, List.set_cons_zero, List.set_cons_succ]
  refine takeH_op (i := 37) (d := some 49) (v := ?v1038) hS0 rfl (by kernel_rfl) (by kernel_rfl) (by kernel_rfl) (fun _ _ _ h => h) (fun oi ho => ?hy1038) ?rest1038
  case hy1038 => (simp only [List.getElem?_toArray, List.getElem?_cons_succ, List.getElem?_cons_zero, Option.some.injEq] at ho; subst ho; refine Or.inl ⟨by rfl, fun w' _ => ?_⟩; go_simp; try (with_reducible rfl))
  simp only [Act.put, List.setIfInBounds_toArray, List.set_cons_zero, List.set_cons_succ]
  refine takeH_op (i := 38) (d := some 50) (v := ?v1039) hS0 rfl (by kernel_rfl) (by kernel_rfl) (by kernel_rfl) (fun _ _ _ h => h) (fun oi ho => ?hy1039) ?rest1039
  case hy1039 => (simp only [List.getElem?_toArray, List.getElem?_cons_succ, List.getElem?_cons_zero, Option.some.injEq] at ho; subst ho; refine Or.inl ⟨by rfl, fun w' hS' => ?_⟩; have k : w'.cell? ⟨sb, so + 8, none⟩ = some (.int .u8 1) := hS' 8 (by decide); go_simp; try (with_reducible rfl))
  simp only [Act.put, List.setIfInBounds_toArray, List.set_cons_zero, List.set_cons_succ]
  refine takeH_op (i := 39) (d := some 51) (v := ?v1040) hS0 rfl (by kernel_rfl) (by kernel_rfl) (by kernel_rfl) (fun _ _ _ h => h) (fun oi ho => ?hy1040) ?rest1040
  case hy1040 => (simp only [List.getElem?_toArray, List.getElem?_cons_succ, List.getElem?_cons_zero, Option.some.injEq] at ho; subst ho; refine Or.inl ⟨by rfl, fun w' hS' => ?_⟩; skip; go_simp; try (with_reducible rfl))
  simp only [Act.put, List.setIfInBounds_toArray, List.set_cons_zero, List.set_cons_succ]
  refine takeH_op (i := 40) (d := some 52) (v := ?v1041) hS0 rfl (by kernel_rfl) (by kernel_rfl) (by kernel_rfl) (fun _ _ _ h => h) (fun oi ho => ?hy1041) ?rest1041
  case hy1041 => (simp only [List.getElem?_toArray, List.getElem?_cons_succ, List.getElem?_cons_zero, Option.some.injEq] at ho; subst ho; refine Or.inl ⟨by rfl, fun w' _ => ?_⟩; go_simp; try (with_reducible rfl))
  simp only [Act.put, List.setIfInBounds_toArray, List.set_cons_zero, List.set_cons_succ]
  refine readyH (rs := [41]) (by kernel_rfl) (by simp) ?_
  refine consH_op (by decide) (fun o ho K hK => ?_) ?_
  simp only [List.getElem?_toArray, List.getElem?_cons_succ, List.getElem?_cons_zero, Option.some.injEq] at ho
  subst ho
  go_simp
  have hS1042 : (fun (w' : World) => ∀ j, j < 9 → w'.cell? ⟨sb, so + j, none⟩ = some (.int .u8 (rC j))) ((W.drew.alloc (.cells #[.int .i64 0, .int .i64 0, .int .i64 0, .int .i64 0, .int .i64 0, .int .i64 0, .int .i64 0, .slice none 0 0] 136))) := by exact fun j hj => ((Ext.refl W.drew).alloc _).cell (hcs j hj)
  refine hK _ _ hS1042 ?_
  clear hK K
  refine wpAnyH_done (by kernel_rfl) ?_ _
  refine pop_last rfl ?_
  rotate_left
  exact allH_nil
  have e0 : IntKind.i64.wrap 2 = 2 := by decide
  have e1 : bits BinOp.or IntKind.i64 (IntKind.i64.wrap (rC 1)) (IntKind.i64.wrap (IntKind.i64.wrap (rC 2) * 256)) = 493 := by decide
  have e3 : IntKind.i64.wrap (rC 3) = 0 := by decide
  have e4 : IntKind.i64.wrap (rC 4) = 0 := by decide
  have e5 : bits BinOp.or IntKind.i64 (IntKind.i64.wrap (rC 5)) (IntKind.i64.wrap (IntKind.i64.wrap (rC 6) * 256)) = 0 := by decide
  have e7 : IntKind.i64.wrap (rC 7) = 1 := by decide
  have e8 : IntKind.i64.wrap (rC 8) = 1 := by decide
  rw [e0, e1, e3, e4, e5, e7, e8]
  clear e0 e1 e3 e4 e5 e7 e8 hcs
  have HX4 := hide ((HX.out.alloc (.cells ndZ.toArray 136)).drew)
  have HB4 := hide ((HB0.out.alloc (.cells ndZ.toArray 136)).drew)
  have HN4 := hide ((Blk.new W 136 ndZ.toArray).drew)
  have HGN := hide (show g < W.heap.size from HB0.out.lt)
  have HXS := hide (HX.out.size)
  obtain ⟨n, hn⟩ : ∃ n, W.heap.size = n := ⟨_, rfl⟩
  rw [hn] at HN4 HGN HXS ⊢
  clear hn
  generalize (W.alloc _).drew = V at *
  have HT := hide (HN4.out.there_ 0 8 (by decide))
  have HSZ := hide (node_size ndR rfl)
  go_upto_region 4 with ((with_reducible refine wpList_store_mid rfl 136 (.tmp 4) (.tmp 52) rfl n 0 ndR.toArray rfl ?_ ?_ ?_ ndR_one ?_); (exact rfl); (exact HT.out); (exact HSZ.out))
  have HNU := hide (HN4.out.setAll ndR rfl)
  have HXU := hide (HX4.out.setCells HXS.out 0 ndR)
  have HBU := hide (HB4.out.grown (setCells_grown n ndR V 0) (by have := HGN.out; simp; omega))
  have HNW := hide (show w.heap.size ≤ n from HXS.out)
  change Code.wp _ _ _ _ (V.setCells n 0 ndR)
  generalize V.setCells n 0 ndR = U at *
  have HRU := hide (HXU.out.reads HR.out (Nat.le_refl _))
  have HEX := hide (extunpack_ok sb (so + 9) (c - 9) U (by
    have := HRU.out.sub 9 16 (by omega)
    rw [root_tail] at this
    exact this.more HXU.out.size))
  have hc1 : ¬ c = 9 := by have := HC.out; omega
  have hc2 : (25 : Int) ≤ (c : Int) := by have := HC.out; omega
  clear HX4 HB4 HN4 HT HX HB0
  have HPK := hide (packr_ok)
  have HEQ := hide (equal_bytes)
  go_upto_region 5 with fail
  refine HEX.out.mono ?_
  rintro e W2 ⟨rfl, hx2⟩
  have HN2 := hide (HNU.out.ext hx2)
  have HB2 := hide (HBU.out.ext hx2)
  have HX2 := hide (HXU.out.trans hx2)
  have HR2 := hide (HX2.out.reads HR.out (Nat.le_refl _))
  have c7 : W2.cell? ⟨n, 7, none⟩ = some (.slice none 0 0) := HN2.out.cell 7
  have f7 := HN2.out.frozen 7
  clear HNU HBU HXU HRU HEX hx2
  go_upto_region 8 with fail
  have HN3 := hide (show Blk (W2.setCell ⟨n, 7, none⟩ (.slice none 0 0)) n 136 ndR.toArray from HN2.out.set_ 7 (.slice none 0 0))
  have HB3 := hide (HB2.out.far (show g ≠ n by have := HGN.out; omega) (p := ⟨n, 7, none⟩) (.slice none 0 0))
  have HX3 := hide (HX2.out.setCell (p := ⟨n, 7, none⟩) HNW.out (.slice none 0 0))
  change Code.wp _ _ _ _ (W2.setCell ⟨n, 7, none⟩ (.slice none 0 0))
  clear HN2 HB2 HX2 HR2 c7 f7
  generalize W2.setCell _ _ = W3 at *
  have HLD := hide (HN3.out.all)
  go_upto_region 9 with ((with_reducible refine wpList_load_mid rfl 136 (.tmp 4) rfl n 0 rfl ndR _ HLD.out Tryz.underlying136 rfl HSZ.out ?_))
  refine (HPK.out _).mono ?_
  rintro e W4 ⟨gp, rfl, hgp, hbp, hx4⟩
  have HR4 := hide (show Reads W4 W4.heap.size 1 (some ⟨gp, 0, none⟩) 32 (bytesV rootB) from Blk.reads hbp)
  have HN4 := hide (HN3.out.ext hx4)
  have HB4 := hide (HB3.out.ext hx4)
  have HX4 := hide (HX3.out.trans hx4)
  have HS4 := hide ((HX3.out.trans hx4).reads HR.out (Nat.le_refl _))
  clear hbp hx4 hgp HPK HN3 HB3 HX3 HLD
  go_upto_region 9 with fail
  go_wp2_with fail
  refine (HEQ.out _ _ _ _ rootB _ _ _ _ HR4.out HS4.out (by omega)).mono ?_
  rintro e W5 ⟨rfl, d, rfl⟩
  have HN5 := hide (HN4.out.drewN d)
  have HB5 := hide (HB4.out.drewN d)
  have HX5 := hide (HX4.out.drewN d)
  clear HN4 HB4 HX4 HEQ HR4 HS4
  generalize W4.drewN d = W5 at *
  have HLF := hide (HN5.out.all)
  have HT := hide (HB5.out.there_ 0 8 (by decide))
  go_wp2_with (first | ((with_reducible refine wpList_load_mid rfl 136 (.tmp 4) rfl n 0 rfl ndR _ HLF.out Tryz.underlying136 rfl HSZ.out ?_)) | ((with_reducible refine wpList_store_mid rfl 136 (.tmp 2) (.tmp 78) rfl g 0 ndR.toArray rfl ?_ ?_ ?_ ndR_one ?_); (exact rfl); (exact HT.out); (exact HSZ.out)))
  exact ret_cell_tmp Tryz.f127 2 3 rfl rfl rfl rfl ((HB5.out.setAll ndR rfl).all) Tryz.underlying136 rfl HSZ.out ⟨rfl, HX5.out.setCells HG.out 0 _⟩
set_option maxHeartbeats 4000000 in
set_option maxRecDepth 100000 in
theorem unpackz_ok (sb so c : Nat) (hc : 32 ≤ c) (w : World) (hr : Reads w w.heap.size 1 (some ⟨sb, so, none⟩) 32 (bytesV (zB 32))) : Calls Tryz.prog 127 #[.slice (some ⟨sb, so, none⟩) 32 c] w fun e w' => e = .returned (.tuple #[.agg ndZ.toArray, .int .i64 0]) ∧ Ext w w' := by
  have HX := hide ((Ext.refl w).alloc (.cells ndZ.toArray 136))
  have HB0 := hide (Blk.new w 136 ndZ.toArray)
  have HR := hide hr
  have HC := hide hc
  clear hr hc
  go_enter Tryz.func127, Tryz.ntmps127
  go_upto_region 3 with fail
  obtain ⟨g, hg⟩ : ∃ g, w.heap.size = g := ⟨_, rfl⟩
  have HG := hide (show w.heap.size ≤ g by omega)
  rw [hg] at HB0 ⊢
  clear hg
  generalize w.alloc _ = W at *
  have hcs : ∀ j, j < 9 → W.drew.cell? ⟨sb, so + j, none⟩ = some (.int .u8 (zC j)) := by
    intro j hj
    obtain ⟨b', o', he, hlt, hcell⟩ := (HX.out.reads HR.out (Nat.le_refl _)).at1 (by omega)
    injection he with he
    injection he with he1 he2
    subst he1 he2
    show W.cell? _ = _
    rw [hcell j (by omega)]
    rcases (show j = 0 ∨ j = 1 ∨ j = 2 ∨ j = 3 ∨ j = 4 ∨ j = 5 ∨ j = 6 ∨ j = 7 ∨ j = 8 by omega) with rfl | rfl | rfl | rfl | rfl | rfl | rfl | rfl | rfl <;> rfl
  refine wp_region_pop_take (S := fun (w' : World) => ∀ j, j < 9 → w'.cell? ⟨sb, so + j, none⟩ = some (.int .u8 (zC j))) 42 rfl rfl (by kernel_rfl) (by kernel_rfl) (by exact hcs) (fun hS0 => ?_)
  simp only [List.take_succ_cons, List.take_zero]
  refine takeH_op (i := 0) (d := some 12) (v := ?v2001) hS0 rfl (by kernel_rfl) (by kernel_rfl) (by kernel_rfl) (fun _ _ _ h => h) (fun oi ho => ?hy2001) ?rest2001
  case hy2001 => (simp only [List.getElem?_toArray, List.getElem?_cons_zero, Option.some.injEq] at ho; subst ho; refine Or.inl ⟨by rfl, fun w' _ => ?_⟩; go_simp; try (with_reducible rfl))
  simp only [Act.put, List.setIfInBounds_toArray, List.set_cons_zero, List.set_cons_succ]
  refine takeH_op (i := 1) (d := some 13) (v := ?v2002) hS0 rfl (by kernel_rfl) (by kernel_rfl) (by kernel_rfl) (fun _ _ _ h => h) (fun oi ho => ?hy2002) ?rest2002
  case hy2002 => (simp only [List.getElem?_toArray, List.getElem?_cons_succ, List.getElem?_cons_zero, Option.some.injEq] at ho; subst ho; refine Or.inl ⟨by rfl, fun w' _ => ?_⟩; go_simp; try (with_reducible rfl))
  simp only [Act.put, List.setIfInBounds_toArray, List.set_cons_zero, List.set_cons_succ]
  refine takeH_op (i := 2) (d := some 14) (v := ?v2003) hS0 rfl (by kernel_rfl) (by kernel_rfl) (by kernel_rfl) (fun _ _ _ h => h) (fun oi ho => ?hy2003) ?rest2003
  case hy2003 => (simp only [List.getElem?_toArray, List.getElem?_cons_succ, List.getElem?_cons_zero, Option.some.injEq] at ho; subst ho; refine Or.inl ⟨by rfl, fun w' hS' => ?_⟩; have k : w'.cell? ⟨sb, so, none⟩ = some (.int .u8 0) := hS' 0 (by decide); go_simp; try (with_reducible rfl))
  simp only [Act.put, List.setIfInBounds_toArray, List.set_cons_zero, List.set_cons_succ]
  refine takeH_op (i := 3) (d := some 15) (v := ?v2004) hS0 rfl (by kernel_rfl) (by kernel_rfl) (by kernel_rfl) (fun _ _ _ h => h) (fun oi ho => ?hy2004) ?rest2004
  case hy2004 => (simp only [List.getElem?_toArray, List.getElem?_cons_succ, List.getElem?_cons_zero, Option.some.injEq] at ho; subst ho; refine Or.inl ⟨by rfl, fun w' hS' => ?_⟩; skip; go_simp; try (with_reducible rfl))
  simp only [Act.put, List.setIfInBounds_toArray, List.set_cons_zero, List.set_cons_succ]
  refine takeH_op (i := 4) (d := some 16) (v := ?v2005) hS0 rfl (by kernel_rfl) (by kernel_rfl) (by kernel_rfl) (fun _ _ _ h => h) (fun oi ho => ?hy2005) ?rest2005
  case hy2005 => (simp only [List.getElem?_toArray, List.getElem?_cons_succ, List.getElem?_cons_zero, Option.some.injEq] at ho; subst ho; refine Or.inl ⟨by rfl, fun w' _ => ?_⟩; go_simp; try (with_reducible rfl))
  simp only [Act.put, List.setIfInBounds_toArray, List.set_cons_zero, List.set_cons_succ]
  refine takeH_op (i := 5) (d := some 17) (v := ?v2006) hS0 rfl (by kernel_rfl) (by kernel_rfl) (by kernel_rfl) (fun _ _ _ h => h) (fun oi ho => ?hy2006) ?rest2006
  case hy2006 => (simp only [List.getElem?_toArray, List.getElem?_cons_succ, List.getElem?_cons_zero, Option.some.injEq] at ho; subst ho; refine Or.inl ⟨by rfl, fun w' _ => ?_⟩; go_simp; try (with_reducible rfl))
  simp only [Act.put, List.setIfInBounds_toArray, List.set_cons_zero, List.set_cons_succ]
  refine takeH_op (i := 6) (d := some 18) (v := ?v2007) hS0 rfl (by kernel_rfl) (by kernel_rfl) (by kernel_rfl) (fun _ _ _ h => h) (fun oi ho => ?hy2007) ?rest2007
  case hy2007 => (simp only [List.getElem?_toArray, List.getElem?_cons_succ, List.getElem?_cons_zero, Option.some.injEq] at ho; subst ho; refine Or.inl ⟨by rfl, fun w' hS' => ?_⟩; have k : w'.cell? ⟨sb, so + 1, none⟩ = some (.int .u8 0) := hS' 1 (by decide); go_simp; try (with_reducible rfl))
  simp only [Act.put, List.setIfInBounds_toArray, List.set_cons_zero, List.set_cons_succ]
  refine takeH_op (i := 7) (d := some 19) (v := ?v2008) hS0 rfl (by kernel_rfl) (by kernel_rfl) (by kernel_rfl) (fun _ _ _ h => h) (fun oi ho => ?hy2008) ?rest2008
  case hy2008 => (simp only [List.getElem?_toArray, List.getElem?_cons_succ, List.getElem?_cons_zero, Option.some.injEq] at ho; subst ho; refine Or.inl ⟨by rfl, fun w' hS' => ?_⟩; skip; go_simp; try (with_reducible rfl))
  simp only [Act.put, List.setIfInBounds_toArray, List.set_cons_zero, List.set_cons_succ]
  refine takeH_op (i := 8) (d := some 20) (v := ?v2009) hS0 rfl (by kernel_rfl) (by kernel_rfl) (by kernel_rfl) (fun _ _ _ h => h) (fun oi ho => ?hy2009) ?rest2009
  case hy2009 => (simp only [List.getElem?_toArray, List.getElem?_cons_succ, List.getElem?_cons_zero, Option.some.injEq] at ho; subst ho; refine Or.inl ⟨by rfl, fun w' _ => ?_⟩; go_simp; try (with_reducible rfl))
  simp only [Act.put, List.setIfInBounds_toArray, List.set_cons_zero, List.set_cons_succ]
  refine takeH_op (i := 9) (d := some 21) (v := ?v2010) hS0 rfl (by kernel_rfl) (by kernel_rfl) (by kernel_rfl) (fun _ _ _ h => h) (fun oi ho => ?hy2010) ?rest2010
  case hy2010 => (simp only [List.getElem?_toArray, List.getElem?_cons_succ, List.getElem?_cons_zero, Option.some.injEq] at ho; subst ho; refine Or.inl ⟨by rfl, fun w' _ => ?_⟩; go_simp; try (with_reducible rfl))
  simp only [Act.put, List.setIfInBounds_toArray, List.set_cons_zero, List.set_cons_succ]
  refine takeH_op (i := 10) (d := some 22) (v := ?v2011) hS0 rfl (by kernel_rfl) (by kernel_rfl) (by kernel_rfl) (fun _ _ _ h => h) (fun oi ho => ?hy2011) ?rest2011
  case hy2011 => (simp only [List.getElem?_toArray, List.getElem?_cons_succ, List.getElem?_cons_zero, Option.some.injEq] at ho; subst ho; refine Or.inl ⟨by rfl, fun w' hS' => ?_⟩; have k : w'.cell? ⟨sb, so + 2, none⟩ = some (.int .u8 0) := hS' 2 (by decide); go_simp; try (with_reducible rfl))
  simp only [Act.put, List.setIfInBounds_toArray, List.set_cons_zero, List.set_cons_succ]
  refine takeH_op (i := 11) (d := some 23) (v := ?v2012) hS0 rfl (by kernel_rfl) (by kernel_rfl) (by kernel_rfl) (fun _ _ _ h => h) (fun oi ho => ?hy2012) ?rest2012
  case hy2012 => (simp only [List.getElem?_toArray, List.getElem?_cons_succ, List.getElem?_cons_zero, Option.some.injEq] at ho; subst ho; refine Or.inl ⟨by rfl, fun w' hS' => ?_⟩; skip; go_simp; try (with_reducible rfl))
  simp only [Act.put, List.setIfInBounds_toArray, List.set_cons_zero, List.set_cons_succ]
  refine takeH_op (i := 12) (d := some 24) (v := ?v2013) hS0 rfl (by kernel_rfl) (by kernel_rfl) (by kernel_rfl) (fun _ _ _ h => h) (fun oi ho => ?hy2013) ?rest2013
  case hy2013 => (simp only [List.getElem?_toArray, List.getElem?_cons_succ, List.getElem?_cons_zero, Option.some.injEq] at ho; subst ho; refine Or.inl ⟨by rfl, fun w' _ => ?_⟩; go_simp; try (with_reducible rfl))
  simp only [Act.put, List.setIfInBounds_toArray, List.set_cons_zero, List.set_cons_succ]
  refine takeH_op (i := 13) (d := some 25) (v := ?v2014) hS0 rfl (by kernel_rfl) (by kernel_rfl) (by kernel_rfl) (fun _ _ _ h => h) (fun oi ho => ?hy2014) ?rest2014
  case hy2014 => (simp only [List.getElem?_toArray, List.getElem?_cons_succ, List.getElem?_cons_zero, Option.some.injEq] at ho; subst ho; refine Or.inl ⟨by rfl, fun w' _ => ?_⟩; go_simp; try (with_reducible rfl))
  simp only [Act.put, List.setIfInBounds_toArray, List.set_cons_zero, List.set_cons_succ]
  refine takeH_op (i := 14) (d := some 26) (v := ?v2015) hS0 rfl (by kernel_rfl) (by kernel_rfl) (by kernel_rfl) (fun _ _ _ h => h) (fun oi ho => ?hy2015) ?rest2015
  case hy2015 => (simp only [List.getElem?_toArray, List.getElem?_cons_succ, List.getElem?_cons_zero, Option.some.injEq] at ho; subst ho; refine Or.inl ⟨by rfl, fun w' _ => ?_⟩; go_simp; try (with_reducible rfl))
  simp only [Act.put, List.setIfInBounds_toArray, List.set_cons_zero, List.set_cons_succ]
  refine takeH_op (i := 15) (d := some 27) (v := ?v2016) hS0 rfl (by kernel_rfl) (by kernel_rfl) (by kernel_rfl) (fun _ _ _ h => h) (fun oi ho => ?hy2016) ?rest2016
  case hy2016 => (simp only [List.getElem?_toArray, List.getElem?_cons_succ, List.getElem?_cons_zero, Option.some.injEq] at ho; subst ho; refine Or.inl ⟨by rfl, fun w' _ => ?_⟩; go_simp; try (with_reducible rfl))
  simp only [Act.put, List.setIfInBounds_toArray, List.set_cons_zero, List.set_cons_succ]
  refine takeH_op (i := 16) (d := some 28) (v := ?v2017) hS0 rfl (by kernel_rfl) (by kernel_rfl) (by kernel_rfl) (fun _ _ _ h => h) (fun oi ho => ?hy2017) ?rest2017
  case hy2017 => (simp only [List.getElem?_toArray, List.getElem?_cons_succ, List.getElem?_cons_zero, Option.some.injEq] at ho; subst ho; refine Or.inl ⟨by rfl, fun w' hS' => ?_⟩; have k : w'.cell? ⟨sb, so + 3, none⟩ = some (.int .u8 0) := hS' 3 (by decide); go_simp; try (with_reducible rfl))
  simp only [Act.put, List.setIfInBounds_toArray, List.set_cons_zero, List.set_cons_succ]
  refine takeH_op (i := 17) (d := some 29) (v := ?v2018) hS0 rfl (by kernel_rfl) (by kernel_rfl) (by kernel_rfl) (fun _ _ _ h => h) (fun oi ho => ?hy2018) ?rest2018
  case hy2018 => (simp only [List.getElem?_toArray, List.getElem?_cons_succ, List.getElem?_cons_zero, Option.some.injEq] at ho; subst ho; refine Or.inl ⟨by rfl, fun w' hS' => ?_⟩; skip; go_simp; try (with_reducible rfl))
  simp only [Act.put, List.setIfInBounds_toArray, List.set_cons_zero, List.set_cons_succ]
  refine takeH_op (i := 18) (d := some 30) (v := ?v2019) hS0 rfl (by kernel_rfl) (by kernel_rfl) (by kernel_rfl) (fun _ _ _ h => h) (fun oi ho => ?hy2019) ?rest2019
  case hy2019 => (simp only [List.getElem?_toArray, List.getElem?_cons_succ, List.getElem?_cons_zero, Option.some.injEq] at ho; subst ho; refine Or.inl ⟨by rfl, fun w' _ => ?_⟩; go_simp; try (with_reducible rfl))
  simp only [Act.put, List.setIfInBounds_toArray, List.set_cons_zero, List.set_cons_succ]
  refine takeH_op (i := 19) (d := some 31) (v := ?v2020) hS0 rfl (by kernel_rfl) (by kernel_rfl) (by kernel_rfl) (fun _ _ _ h => h) (fun oi ho => ?hy2020) ?rest2020
  case hy2020 => (simp only [List.getElem?_toArray, List.getElem?_cons_succ, List.getElem?_cons_zero, Option.some.injEq] at ho; subst ho; refine Or.inl ⟨by rfl, fun w' _ => ?_⟩; go_simp; try (with_reducible rfl))
  simp only [Act.put, List.setIfInBounds_toArray, List.set_cons_zero, List.set_cons_succ]
  refine takeH_op (i := 20) (d := some 32) (v := ?v2021) hS0 rfl (by kernel_rfl) (by kernel_rfl) (by kernel_rfl) (fun _ _ _ h => h) (fun oi ho => ?hy2021) ?rest2021
  case hy2021 => (simp only [List.getElem?_toArray, List.getElem?_cons_succ, List.getElem?_cons_zero, Option.some.injEq] at ho; subst ho; refine Or.inl ⟨by rfl, fun w' hS' => ?_⟩; have k : w'.cell? ⟨sb, so + 4, none⟩ = some (.int .u8 0) := hS' 4 (by decide); go_simp; try (with_reducible rfl))
  simp only [Act.put, List.setIfInBounds_toArray, List.set_cons_zero, List.set_cons_succ]
  refine takeH_op (i := 21) (d := some 33) (v := ?v2022) hS0 rfl (by kernel_rfl) (by kernel_rfl) (by kernel_rfl) (fun _ _ _ h => h) (fun oi ho => ?hy2022) ?rest2022
  case hy2022 => (simp only [List.getElem?_toArray, List.getElem?_cons_succ, List.getElem?_cons_zero, Option.some.injEq] at ho; subst ho; refine Or.inl ⟨by rfl, fun w' hS' => ?_⟩; skip; go_simp; try (with_reducible rfl))
  simp only [Act.put, List.setIfInBounds_toArray, List.set_cons_zero, List.set_cons_succ]
  refine takeH_op (i := 22) (d := some 34) (v := ?v2023) hS0 rfl (by kernel_rfl) (by kernel_rfl) (by kernel_rfl) (fun _ _ _ h => h) (fun oi ho => ?hy2023) ?rest2023
  case hy2023 => (simp only [List.getElem?_toArray, List.getElem?_cons_succ, List.getElem?_cons_zero, Option.some.injEq] at ho; subst ho; refine Or.inl ⟨by rfl, fun w' _ => ?_⟩; go_simp; try (with_reducible rfl))
  simp only [Act.put, List.setIfInBounds_toArray, List.set_cons_zero, List.set_cons_succ]
  refine takeH_op (i := 23) (d := some 35) (v := ?v2024) hS0 rfl (by kernel_rfl) (by kernel_rfl) (by kernel_rfl) (fun _ _ _ h => h) (fun oi ho => ?hy2024) ?rest2024
  case hy2024 => (simp only [List.getElem?_toArray, List.getElem?_cons_succ, List.getElem?_cons_zero, Option.some.injEq] at ho; subst ho; refine Or.inl ⟨by rfl, fun w' _ => ?_⟩; go_simp; try (with_reducible rfl))
  simp only [Act.put, List.setIfInBounds_toArray, List.set_cons_zero, List.set_cons_succ]
  refine takeH_op (i := 24) (d := some 36) (v := ?v2025) hS0 rfl (by kernel_rfl) (by kernel_rfl) (by kernel_rfl) (fun _ _ _ h => h) (fun oi ho => ?hy2025) ?rest2025
  case hy2025 => (simp only [List.getElem?_toArray, List.getElem?_cons_succ, List.getElem?_cons_zero, Option.some.injEq] at ho; subst ho; refine Or.inl ⟨by rfl, fun w' hS' => ?_⟩; have k : w'.cell? ⟨sb, so + 5, none⟩ = some (.int .u8 0) := hS' 5 (by decide); go_simp; try (with_reducible rfl))
  simp only [Act.put, List.setIfInBounds_toArray, List.set_cons_zero, List.set_cons_succ]
  refine takeH_op (i := 25) (d := some 37) (v := ?v2026) hS0 rfl (by kernel_rfl) (by kernel_rfl) (by kernel_rfl) (fun _ _ _ h => h) (fun oi ho => ?hy2026) ?rest2026
  case hy2026 => (simp only [List.getElem?_toArray, List.getElem?_cons_succ, List.getElem?_cons_zero, Option.some.injEq] at ho; subst ho; refine Or.inl ⟨by rfl, fun w' hS' => ?_⟩; skip; go_simp; try (with_reducible rfl))
  simp only [Act.put, List.setIfInBounds_toArray, List.set_cons_zero, List.set_cons_succ]
  refine takeH_op (i := 26) (d := some 38) (v := ?v2027) hS0 rfl (by kernel_rfl) (by kernel_rfl) (by kernel_rfl) (fun _ _ _ h => h) (fun oi ho => ?hy2027) ?rest2027
  case hy2027 => (simp only [List.getElem?_toArray, List.getElem?_cons_succ, List.getElem?_cons_zero, Option.some.injEq] at ho; subst ho; refine Or.inl ⟨by rfl, fun w' _ => ?_⟩; go_simp; try (with_reducible rfl))
  simp only [Act.put, List.setIfInBounds_toArray, List.set_cons_zero, List.set_cons_succ]
  refine takeH_op (i := 27) (d := some 39) (v := ?v2028) hS0 rfl (by kernel_rfl) (by kernel_rfl) (by kernel_rfl) (fun _ _ _ h => h) (fun oi ho => ?hy2028) ?rest2028
  case hy2028 => (simp only [List.getElem?_toArray, List.getElem?_cons_succ, List.getElem?_cons_zero, Option.some.injEq] at ho; subst ho; refine Or.inl ⟨by rfl, fun w' _ => ?_⟩; go_simp; try (with_reducible rfl))
  simp only [Act.put, List.setIfInBounds_toArray, List.set_cons_zero, List.set_cons_succ]
  refine takeH_op (i := 28) (d := some 40) (v := ?v2029) hS0 rfl (by kernel_rfl) (by kernel_rfl) (by kernel_rfl) (fun _ _ _ h => h) (fun oi ho => ?hy2029) ?rest2029
  case hy2029 => (simp only [List.getElem?_toArray, List.getElem?_cons_succ, List.getElem?_cons_zero, Option.some.injEq] at ho; subst ho; refine Or.inl ⟨by rfl, fun w' hS' => ?_⟩; have k : w'.cell? ⟨sb, so + 6, none⟩ = some (.int .u8 0) := hS' 6 (by decide); go_simp; try (with_reducible rfl))
  simp only [Act.put, List.setIfInBounds_toArray, List.set_cons_zero, List.set_cons_succ]
  refine takeH_op (i := 29) (d := some 41) (v := ?v2030) hS0 rfl (by kernel_rfl) (by kernel_rfl) (by kernel_rfl) (fun _ _ _ h => h) (fun oi ho => ?hy2030) ?rest2030
  case hy2030 => (simp only [List.getElem?_toArray, List.getElem?_cons_succ, List.getElem?_cons_zero, Option.some.injEq] at ho; subst ho; refine Or.inl ⟨by rfl, fun w' hS' => ?_⟩; skip; go_simp; try (with_reducible rfl))
  simp only [Act.put, List.setIfInBounds_toArray, List.set_cons_zero, List.set_cons_succ]
  refine takeH_op (i := 30) (d := some 42) (v := ?v2031) hS0 rfl (by kernel_rfl) (by kernel_rfl) (by kernel_rfl) (fun _ _ _ h => h) (fun oi ho => ?hy2031) ?rest2031
  case hy2031 => (simp only [List.getElem?_toArray, List.getElem?_cons_succ, List.getElem?_cons_zero, Option.some.injEq] at ho; subst ho; refine Or.inl ⟨by rfl, fun w' _ => ?_⟩; go_simp; try (with_reducible rfl))
  simp only [Act.put, List.setIfInBounds_toArray, List.set_cons_zero, List.set_cons_succ]
  refine takeH_op (i := 31) (d := some 43) (v := ?v2032) hS0 rfl (by kernel_rfl) (by kernel_rfl) (by kernel_rfl) (fun _ _ _ h => h) (fun oi ho => ?hy2032) ?rest2032
  case hy2032 => (simp only [List.getElem?_toArray, List.getElem?_cons_succ, List.getElem?_cons_zero, Option.some.injEq] at ho; subst ho; refine Or.inl ⟨by rfl, fun w' _ => ?_⟩; go_simp; try (with_reducible rfl))
  simp only [Act.put, List.setIfInBounds_toArray, List.set_cons_zero, List.set_cons_succ]
  refine takeH_op (i := 32) (d := some 44) (v := ?v2033) hS0 rfl (by kernel_rfl) (by kernel_rfl) (by kernel_rfl) (fun _ _ _ h => h) (fun oi ho => ?hy2033) ?rest2033
  case hy2033 => (simp only [List.getElem?_toArray, List.getElem?_cons_succ, List.getElem?_cons_zero, Option.some.injEq] at ho; subst ho; refine Or.inl ⟨by rfl, fun w' _ => ?_⟩; go_simp; try (with_reducible rfl))
  simp only [Act.put, List.setIfInBounds_toArray, List.set_cons_zero, List.set_cons_succ]
  refine takeH_op (i := 33) (d := some 45) (v := ?v2034) hS0 rfl (by kernel_rfl) (by kernel_rfl) (by kernel_rfl) (fun _ _ _ h => h) (fun oi ho => ?hy2034) ?rest2034
  case hy2034 => (simp only [List.getElem?_toArray, List.getElem?_cons_succ, List.getElem?_cons_zero, Option.some.injEq] at ho; subst ho; refine Or.inl ⟨by rfl, fun w' _ => ?_⟩; go_simp; try (with_reducible rfl))
  simp only [Act.put, List.setIfInBounds_toArray, List.set_cons_zero, List.set_cons_succ]
  refine takeH_op (i := 34) (d := some 46) (v := ?v2035) hS0 rfl (by kernel_rfl) (by kernel_rfl) (by kernel_rfl) (fun _ _ _ h => h) (fun oi ho => ?hy2035) ?rest2035
  case hy2035 => (simp only [List.getElem?_toArray, List.getElem?_cons_succ, List.getElem?_cons_zero, Option.some.injEq] at ho; subst ho; refine Or.inl ⟨by rfl, fun w' hS' => ?_⟩; have k : w'.cell? ⟨sb, so + 7, none⟩ = some (.int .u8 0) := hS' 7 (by decide); go_simp; try (with_reducible rfl))
  simp only [Act.put, List.setIfInBounds_toArray, List.set_cons_zero, List.set_cons_succ]
  refine takeH_op (i := 35) (d := some 47) (v := ?v2036) hS0 rfl (by kernel_rfl) (by kernel_rfl) (by kernel_rfl) (fun _ _ _ h => h) (fun oi ho => ?hy2036) ?rest2036
  case hy2036 => (simp only [List.getElem?_toArray, List.getElem?_cons_succ, List.getElem?_cons_zero, Option.some.injEq] at ho; subst ho; refine Or.inl ⟨by rfl, fun w' hS' => ?_⟩; skip; go_simp; try (with_reducible rfl))
  simp only [Act.put, List.setIfInBounds_toArray, List.set_cons_zero, List.set_cons_succ]
  refine takeH_op (i := 36) (d := some 48) (v := ?v2037) hS0 rfl (by kernel_rfl) (by kernel_rfl) (by kernel_rfl) (fun _ _ _ h => h) (fun oi ho => ?hy2037) ?rest2037
  case hy2037 => (simp only [List.getElem?_toArray, List.getElem?_cons_succ, List.getElem?_cons_zero, Option.some.injEq] at ho; subst ho; refine Or.inl ⟨by rfl, fun w' _ => ?_⟩; go_simp; try (with_reducible rfl))
  simp only [Act.put, List.setIfInBounds_toArray, List.set_cons_zero, List.set_cons_succ]
  refine takeH_op (i := 37) (d := some 49) (v := ?v2038) hS0 rfl (by kernel_rfl) (by kernel_rfl) (by kernel_rfl) (fun _ _ _ h => h) (fun oi ho => ?hy2038) ?rest2038
  case hy2038 => (simp only [List.getElem?_toArray, List.getElem?_cons_succ, List.getElem?_cons_zero, Option.some.injEq] at ho; subst ho; refine Or.inl ⟨by rfl, fun w' _ => ?_⟩; go_simp; try (with_reducible rfl))
  simp only [Act.put, List.setIfInBounds_toArray, List.set_cons_zero, List.set_cons_succ]
  refine takeH_op (i := 38) (d := some 50) (v := ?v2039) hS0 rfl (by kernel_rfl) (by kernel_rfl) (by kernel_rfl) (fun _ _ _ h => h) (fun oi ho => ?hy2039) ?rest2039
  case hy2039 => (simp only [List.getElem?_toArray, List.getElem?_cons_succ, List.getElem?_cons_zero, Option.some.injEq] at ho; subst ho; refine Or.inl ⟨by rfl, fun w' hS' => ?_⟩; have k : w'.cell? ⟨sb, so + 8, none⟩ = some (.int .u8 0) := hS' 8 (by decide); go_simp; try (with_reducible rfl))
  simp only [Act.put, List.setIfInBounds_toArray, List.set_cons_zero, List.set_cons_succ]
  refine takeH_op (i := 39) (d := some 51) (v := ?v2040) hS0 rfl (by kernel_rfl) (by kernel_rfl) (by kernel_rfl) (fun _ _ _ h => h) (fun oi ho => ?hy2040) ?rest2040
  case hy2040 => (simp only [List.getElem?_toArray, List.getElem?_cons_succ, List.getElem?_cons_zero, Option.some.injEq] at ho; subst ho; refine Or.inl ⟨by rfl, fun w' hS' => ?_⟩; skip; go_simp; try (with_reducible rfl))
  simp only [Act.put, List.setIfInBounds_toArray, List.set_cons_zero, List.set_cons_succ]
  refine takeH_op (i := 40) (d := some 52) (v := ?v2041) hS0 rfl (by kernel_rfl) (by kernel_rfl) (by kernel_rfl) (fun _ _ _ h => h) (fun oi ho => ?hy2041) ?rest2041
  case hy2041 => (simp only [List.getElem?_toArray, List.getElem?_cons_succ, List.getElem?_cons_zero, Option.some.injEq] at ho; subst ho; refine Or.inl ⟨by rfl, fun w' _ => ?_⟩; go_simp; try (with_reducible rfl))
  simp only [Act.put, List.setIfInBounds_toArray, List.set_cons_zero, List.set_cons_succ]
  refine readyH (rs := [41]) (by kernel_rfl) (by simp) ?_
  refine consH_op (by decide) (fun o ho K hK => ?_) ?_
  simp only [List.getElem?_toArray, List.getElem?_cons_succ, List.getElem?_cons_zero, Option.some.injEq] at ho
  subst ho
  go_simp
  have hS2042 : (fun (w' : World) => ∀ j, j < 9 → w'.cell? ⟨sb, so + j, none⟩ = some (.int .u8 (zC j))) ((W.drew.alloc (.cells #[.int .i64 0, .int .i64 0, .int .i64 0, .int .i64 0, .int .i64 0, .int .i64 0, .int .i64 0, .slice none 0 0] 136))) := by exact fun j hj => ((Ext.refl W.drew).alloc _).cell (hcs j hj)
  refine hK _ _ hS2042 ?_
  clear hK K
  refine wpAnyH_done (by kernel_rfl) ?_ _
  refine pop_last rfl ?_
  rotate_left
  exact allH_nil
  have e0 : IntKind.i64.wrap 0 = 0 := by decide
  have e1 : bits BinOp.or IntKind.i64 (IntKind.i64.wrap (zC 1)) (IntKind.i64.wrap (IntKind.i64.wrap (zC 2) * 256)) = 0 := by decide
  have e3 : ∀ j, IntKind.i64.wrap (zC j) = 0 := fun j => (by decide : IntKind.i64.wrap 0 = 0)
  have e5 : bits BinOp.or IntKind.i64 (IntKind.i64.wrap (zC 5)) (IntKind.i64.wrap (IntKind.i64.wrap (zC 6) * 256)) = 0 := by decide
  rw [e0, e1, e3, e3, e5, e3, e3]
  clear e0 e1 e3 e5 hcs
  have HX4 := hide ((HX.out.alloc (.cells ndZ.toArray 136)).drew)
  have HB4 := hide ((HB0.out.alloc (.cells ndZ.toArray 136)).drew)
  have HN4 := hide ((Blk.new W 136 ndZ.toArray).drew)
  have HGN := hide (show g < W.heap.size from HB0.out.lt)
  have HXS := hide (HX.out.size)
  obtain ⟨n, hn⟩ : ∃ n, W.heap.size = n := ⟨_, rfl⟩
  rw [hn] at HN4 HGN HXS ⊢
  clear hn
  generalize (W.alloc _).drew = V at *
  have HT := hide (HN4.out.there_ 0 8 (by decide))
  have HSZ := hide (node_size ndZ rfl)
  go_upto_region 4 with ((with_reducible refine wpList_store_mid rfl 136 (.tmp 4) (.tmp 52) rfl n 0 ndZ.toArray rfl ?_ ?_ ?_ ndZ_one ?_); (exact rfl); (exact HT.out); (exact HSZ.out))
  have HNU := hide (HN4.out.setAll ndZ rfl)
  have HXU := hide (HX4.out.setCells HXS.out 0 ndZ)
  have HBU := hide (HB4.out.grown (setCells_grown n ndZ V 0) (by have := HGN.out; simp; omega))
  have HNW := hide (show w.heap.size ≤ n from HXS.out)
  change Code.wp _ _ _ _ (V.setCells n 0 ndZ)
  generalize V.setCells n 0 ndZ = U at *
  have HRU := hide (HXU.out.reads HR.out (Nat.le_refl _))
  have HEX := hide (extunpack_ok sb (so + 9) (c - 9) U (by
    have := HRU.out.sub 9 16 (by omega)
    rw [zero_tail] at this
    exact this.more HXU.out.size))
  have hc1 : ¬ c = 9 := by have := HC.out; omega
  have hc2 : (25 : Int) ≤ (c : Int) := by have := HC.out; omega
  clear HX4 HB4 HN4 HT HX HB0
  have HPK := hide (packz_ok)
  have HEQ := hide (equal_bytes)
  go_upto_region 5 with fail
  refine HEX.out.mono ?_
  rintro e W2 ⟨rfl, hx2⟩
  have HN2 := hide (HNU.out.ext hx2)
  have HB2 := hide (HBU.out.ext hx2)
  have HX2 := hide (HXU.out.trans hx2)
  have HR2 := hide (HX2.out.reads HR.out (Nat.le_refl _))
  have c7 : W2.cell? ⟨n, 7, none⟩ = some (.slice none 0 0) := HN2.out.cell 7
  have f7 := HN2.out.frozen 7
  clear HNU HBU HXU HRU HEX hx2
  go_upto_region 8 with fail
  have HN3 := hide (show Blk (W2.setCell ⟨n, 7, none⟩ (.slice none 0 0)) n 136 ndZ.toArray from HN2.out.set_ 7 (.slice none 0 0))
  have HB3 := hide (HB2.out.far (show g ≠ n by have := HGN.out; omega) (p := ⟨n, 7, none⟩) (.slice none 0 0))
  have HX3 := hide (HX2.out.setCell (p := ⟨n, 7, none⟩) HNW.out (.slice none 0 0))
  change Code.wp _ _ _ _ (W2.setCell ⟨n, 7, none⟩ (.slice none 0 0))
  clear HN2 HB2 HX2 HR2 c7 f7
  generalize W2.setCell _ _ = W3 at *
  have HLD := hide (HN3.out.all)
  go_upto_region 9 with ((with_reducible refine wpList_load_mid rfl 136 (.tmp 4) rfl n 0 rfl ndZ _ HLD.out Tryz.underlying136 rfl HSZ.out ?_))
  refine (HPK.out _).mono ?_
  rintro e W4 ⟨gp, rfl, hgp, hbp, hx4⟩
  have HR4 := hide (show Reads W4 W4.heap.size 1 (some ⟨gp, 0, none⟩) 32 (bytesV (zB 32)) from Blk.reads hbp)
  have HN4 := hide (HN3.out.ext hx4)
  have HB4 := hide (HB3.out.ext hx4)
  have HX4 := hide (HX3.out.trans hx4)
  have HS4 := hide ((HX3.out.trans hx4).reads HR.out (Nat.le_refl _))
  clear hbp hx4 hgp HPK HN3 HB3 HX3 HLD
  go_upto_region 9 with fail
  go_wp2_with fail
  refine (HEQ.out _ _ _ _ (zB 32) _ _ _ _ HR4.out HS4.out (by omega)).mono ?_
  rintro e W5 ⟨rfl, d, rfl⟩
  have HN5 := hide (HN4.out.drewN d)
  have HB5 := hide (HB4.out.drewN d)
  have HX5 := hide (HX4.out.drewN d)
  clear HN4 HB4 HX4 HEQ HR4 HS4
  generalize W4.drewN d = W5 at *
  have HLF := hide (HN5.out.all)
  have HT := hide (HB5.out.there_ 0 8 (by decide))
  go_wp2_with (first | ((with_reducible refine wpList_load_mid rfl 136 (.tmp 4) rfl n 0 rfl ndZ _ HLF.out Tryz.underlying136 rfl HSZ.out ?_)) | ((with_reducible refine wpList_store_mid rfl 136 (.tmp 2) (.tmp 78) rfl g 0 ndZ.toArray rfl ?_ ?_ ?_ ndZ_one ?_); (exact rfl); (exact HT.out); (exact HSZ.out)))
  exact ret_cell_tmp Tryz.f127 2 3 rfl rfl rfl rfl ((HB5.out.setAll ndZ rfl).all) Tryz.underlying136 rfl HSZ.out ⟨rfl, HX5.out.setCells HG.out 0 _⟩
end
end Go.Proofs.YthmojneobkaolaaGreatDoor
