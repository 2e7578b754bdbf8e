/- page: the page that bytes begin with. -/
import Derived.Test.YtmcgkdifieohlaaDoorLoadParse
import Derived.IntWalk
namespace Go.Proofs.YtmcgkdifieohlaaDoor
open Go.RowKit
set_option linter.unusedVariables false

section
variable {P : Program} {w : World}
/-- 's[k:j]' and 's[k:]' as one equation for the walk, the bounds as the walk spells them. -/
theorem cut_mid {t e : TypeId} {i : TypeInfo} (ht : P.underlying t = some (.slice e)) (hi : P.info? e = some i) (hs : i.size = 1) {B n : Nat} {A : Option Addr} {xs : List Value} (h : Reads w B 1 A n xs) (lo hi' : Int) (k j c : Nat) (hlo : lo = k) (hhi : hi' = j) (hkj : k ≤ j) (hj : j ≤ n) (hc : n ≤ c) (kl kh : IntKind) :
    ∃ A', (∀ W, (Instr.slice t (.slice A n c) (some (.int kl lo)) (some (.int kh hi')) none).run P W = .ok (.slice A' (j - k) (c - k)) W) ∧ Reads w B 1 A' (j - k) ((xs.drop k).take (j - k)) ∧ (A' = none → A = none) := by
  have he : P.elem t = e := by simp [Program.elem, ht]
  have ht' : P.underlying t = some (.slice (P.elem t)) := by rw [he]; exact ht
  subst hlo hhi
  refine ⟨if c = k then A else A.map (·.add (k * 1)), fun W => ?_, ?_, ?_⟩
  · rw [run_slice_lh W t A n c ht' kl kh (k : Int) (j : Int) (by omega) (by omega) (by omega), he]
    simp [sizeOf, typeInfo, hi, hs, sliced, Result.andThen]
  · have := (h.cut (k := k) (cap := c) (by omega) hc)
    rw [Nat.mul_one] at this
    rw [Nat.mul_one]
    exact this.take (by omega)
  · intro h0
    cases A with
    | none => rfl
    | some a => split at h0 <;> simp at h0
theorem cut_to {t e : TypeId} {i : TypeInfo} (ht : P.underlying t = some (.slice e)) (hi : P.info? e = some i) (hs : i.size = 1) {B n : Nat} {A : Option Addr} {xs : List Value} (h : Reads w B 1 A n xs) (lo : Int) (k c : Nat) (hlo : lo = k) (hk : k ≤ n) (hc : n ≤ c) (kl : IntKind) :
    ∃ A', (∀ W, (Instr.slice t (.slice A n c) (some (.int kl lo)) none none).run P W = .ok (.slice A' (n - k) (c - k)) W) ∧ Reads w B 1 A' (n - k) (xs.drop k) ∧ (A' = none → A = none) := by
  subst hlo
  exact cut_from ht hi hs h k c hk hc kl
end
theorem far3 {w : World} {b off g : Nat} {v u0 u1 u2 : Value} (h : w.cell? ⟨b, off, none⟩ = some v) (hne : b ≠ g) : (((w.setCell ⟨g, 0, none⟩ u0).setCell ⟨g, 1, none⟩ u1).setCell ⟨g, 2, none⟩ u2).cell? ⟨b, off, none⟩ = some v := by
  rw [World.cell?_setCell_other _ _ _ _ (fun e => hne (by injection e with e; exact e.symm)), World.cell?_setCell_other _ _ _ _ (fun e => hne (by injection e with e; exact e.symm)), World.cell?_setCell_other _ _ _ _ (fun e => hne (by injection e with e; exact e.symm))]
  exact h
def PagePost (w : World) (B n : Nat) (bs : List UInt8) (e : Ending) (w' : World) : Prop :=
  Ext w w' ∧ ((pageL bs = none ∧ e = .returned (.tuple #[.agg #[.int .i64 0, .int .i64 0, .slice none 0 0], .slice none 0 0, .bool false])) ∨
    (∃ (p : PgD) (A' : Option Addr) (n' c' : Nat), pageL bs = some (era p, bs.drop (3 + p.m)) ∧ p.Num ∧ e = .returned (.tuple #[.agg #[.int .i64 p.page, .int .i64 p.rights, .slice p.D p.m p.c], .slice A' n' c', .bool true]) ∧ PgOwn w' w.heap.size p ∧ Reads w B 1 A' n' (bytesV (bs.drop (3 + p.m))) ∧ n' ≤ c' ∧ c' ≤ maxLen))
set_option maxHeartbeats 1500000 in
set_option maxRecDepth 100000 in
theorem page_any (A : Option Addr) (n c B : Nat) (bs : List UInt8) (w : World) (hr : Reads w B 1 A n (bytesV bs)) (hB : B ≤ w.heap.size) (hn : n ≤ c) (hc : c ≤ maxLen) (h512 : n ≤ 512) :
    Calls Tryd.prog 16 #[.slice A n c] w (PagePost w B n bs) := by
  have hl : bs.length = n := by have := hr.1; rw [bytesV_length] at this; omega
  have HL := hide hl
  have HR := hide hr
  unfold maxLen at hc
  clear hr hl
  by_cases h3 : n < 3
  · go_enter Tryd.func16, Tryd.ntmps16
    go_wp2_with fail
    exact bodyPost_ret (v := .tuple #[.agg #[.int .i64 0, .int .i64 0, .slice none 0 0], .slice none 0 0, .bool false]) (by simp [results, Tryd.results16, go_sem]) rfl ⟨by ((repeat (first | with_reducible exact Ext.refl _ | with_reducible assumption | with_reducible refine Ext.alloc ?_ _ | with_reducible refine Ext.drew ?_ | with_reducible refine Ext.drewN ?_ _ | with_reducible refine Ext.setCell ?_ (by first | exact Nat.le_refl _ | assumption | (simp; done) | omega) _ | with_reducible refine Ext.trans ?_ (by with_reducible assumption))); done), .inl ⟨by rw [pageL, if_pos (.inl (by rw [HL.out]; exact h3))], rfl⟩⟩
  · obtain ⟨b, off, rfl, hbB, -⟩ := HR.out.at1 (by omega)
    have k0 := cells_of HR.out 0 (by omega)
    have k1 := cells_of HR.out 1 (by omega)
    have k2 := cells_of HR.out 2 (by omega)
    have HPL := hide (show pageL bs = if bs.length < 3 ∨ bs.length - 3 < (bs.getD 2 0).toNat then none else some (⟨((bs.getD 0 0).toNat : Nat), ((bs.getD 1 0).toNat : Nat), none, (bs.getD 2 0).toNat, 0, (bs.drop 3).take (bs.getD 2 0).toNat⟩, bs.drop (3 + (bs.getD 2 0).toNat)) from rfl)
    have l0 := (bs.getD 0 0).toNat_lt
    have l1 := (bs.getD 1 0).toNat_lt
    have l2 := (bs.getD 2 0).toNat_lt
    generalize (bs.getD 0 0).toNat = x0 at *
    generalize (bs.getD 1 0).toNat = x1 at *
    generalize (bs.getD 2 0).toNat = x2 at *
    have i0 : (0 : Int) < (n : Int) := by omega
    have i1 : (1 : Int) < (n : Int) := by omega
    have i2 : (2 : Int) < (n : Int) := by omega
    have i3 : ¬ ((n : Int) < 3) := by omega
    have y0 := alloc_old w
    have hbw : b < w.heap.size := by omega
    have i5 : 0 < n := by omega
    by_cases hx : n - 3 < x2
    · have i4 : (n : Int) - 3 < (x2 : Int) := by omega
      go_enter Tryd.func16, Tryd.ntmps16
      go_wp2_with fail
      exact bodyPost_ret (v := .tuple #[.agg #[.int .i64 0, .int .i64 0, .slice none 0 0], .slice none 0 0, .bool false]) (by simp [results, Tryd.results16, go_sem]) rfl ⟨by ((repeat (first | with_reducible exact Ext.refl _ | with_reducible assumption | with_reducible refine Ext.alloc ?_ _ | with_reducible refine Ext.drew ?_ | with_reducible refine Ext.drewN ?_ _ | with_reducible refine Ext.setCell ?_ (by first | exact Nat.le_refl _ | assumption | (simp; done) | omega) _ | with_reducible refine Ext.trans ?_ (by with_reducible assumption))); done), Or.inl ⟨by rw [HPL.out, if_pos (.inr (by rw [HL.out]; exact hx))], rfl⟩⟩
    · have i4 : ¬ ((n : Int) - 3 < (x2 : Int)) := by omega
      obtain ⟨j0, hj0, jz0, jz1, jz2⟩ := info_parts u8_info
      obtain ⟨A1, q1, hr1, hn1⟩ := cut_mid (P := Tryd.prog) Tryd.underlying31 hj0 jz1 HR.out 3 (3 + (x2 : Int)) 3 (3 + x2) c rfl (by omega) (by omega) (by omega) hn .i64 .i64
      obtain ⟨A2, q2, hr2, hn2⟩ := cut_to (P := Tryd.prog) Tryd.underlying31 hj0 jz1 HR.out (3 + (x2 : Int)) (3 + x2) c (by omega) (by omega) hn .i64
      rw [show 3 + x2 - 3 = x2 by omega] at q1 hr1
      rw [bytesV_drop, bytesV_take] at hr1
      rw [bytesV_drop] at hr2
      obtain ⟨n2, hn2e⟩ : ∃ n2, n2 = n - (3 + x2) := ⟨_, rfl⟩
      obtain ⟨c2, hc2e⟩ : ∃ c2, c2 = c - (3 + x2) := ⟨_, rfl⟩
      obtain ⟨c1, hc1e⟩ : ∃ c1, c1 = c - 3 := ⟨_, rfl⟩
      rw [← hn2e, ← hc2e] at q2
      rw [← hc1e] at q1
      rw [← hn2e] at hr2
      have HR1 := hide hr1
      have HR2 := hide hr2
      have HN1 := hide hn1
      have HN2 := hide hn2e
      have HC2 := hide hc2e
      have HC1 := hide hc1e
      clear hr1 hr2 hn1 hn2 hn2e hc2e hc1e
      go_enter Tryd.func16, Tryd.ntmps16
      go_upto_region 4 with fail
      have hbx : Blk (w.alloc (.cells #[.int .i64 0, .int .i64 0, .slice none 0 0] 39)).drew w.heap.size 39 #[.int .i64 0, .int .i64 0, .slice none 0 0] := Blk.new _ _ _
      have hbd : b ≠ w.heap.size := by omega
      have p0 : (w.alloc (.cells #[.int .i64 0, .int .i64 0, .slice none 0 0] 39)).cell? ⟨b, off, none⟩ = some (.int .u8 x0) := by rw [alloc_old w _ _ _ (by omega)]; simpa using k0
      have p1 : (w.alloc (.cells #[.int .i64 0, .int .i64 0, .slice none 0 0] 39)).cell? ⟨b, off + 1, none⟩ = some (.int .u8 x1) := by rw [alloc_old w _ _ _ (by omega)]; exact k1
      have HX1 := hide (show Ext w (w.alloc (.cells #[.int .i64 0, .int .i64 0, .slice none 0 0] 39)).drew by ((repeat (first | with_reducible exact Ext.refl _ | with_reducible assumption | with_reducible refine Ext.alloc ?_ _ | with_reducible refine Ext.drew ?_ | with_reducible refine Ext.drewN ?_ _ | with_reducible refine Ext.setCell ?_ (by first | exact Nat.le_refl _ | assumption | (simp; done) | omega) _ | with_reducible refine Ext.trans ?_ (by with_reducible assumption))); done))
      have hsz : (w.alloc (.cells #[.int .i64 0, .int .i64 0, .slice none 0 0] 39)).heap.size = w.heap.size + 1 := by simp
      generalize w.alloc (.cells #[.int .i64 0, .int .i64 0, .slice none 0 0] 39) = W1 at hbx p0 p1 HX1 hsz ⊢
      have HSZ := hide hsz
      clear hsz k0 k1 k2 y0
      have v0 : IntKind.i64.wrap (x0 : Int) = x0 := IntWalk.i64_in _ (by omega)
      have v1 : IntKind.i64.wrap (x1 : Int) = x1 := IntWalk.i64_in _ (by omega)
      go_region_held3 (fun w' => w'.cell? ⟨b, off, none⟩ = some (.int .u8 x0) ∧ w'.cell? ⟨b, off + 1, none⟩ = some (.int .u8 x1))
        (first | exact ⟨p0, p1⟩ | exact ⟨z0, z1⟩ | exact ⟨far3 z0 hbd, far3 z1 hbd⟩ | fail)
        (first
          | (go_at_call 14; (with_reducible refine (bclone_any A1 x2 c1 B _ _ (HX1.out.reads HR1.out hB) (bytesV_one _) (Nat.le_trans hB HX1.out.size) (by omega) (fun e => by have := HN1.out e; cases this)).mono ?_); rintro e w5 ⟨A5, c5, rfl, ho5, hx5⟩; have hb5 := hbx.ext hx5; have z0 : w5.cell? ⟨b, off, none⟩ = some (.int .u8 x0) := hx5.cell p0; have z1 : w5.cell? ⟨b, off + 1, none⟩ = some (.int .u8 x1) := hx5.cell p1; have z2 : w5.cell? ⟨w.heap.size, 0, none⟩ = some (.int .i64 0) := hb5.cell 0; have z3 : w5.cell? ⟨w.heap.size, 1, none⟩ = some (.int .i64 0) := hb5.cell 1; have z4 : w5.cell? ⟨w.heap.size, 2, none⟩ = some (.slice none 0 0) := hb5.cell 2; have f0 := hb5.frozen 0; have f1 := hb5.frozen 1; have f2 := hb5.frozen 2; have HO5 := hide ho5; have HX5 := hide (HX1.out.trans hx5); have HB5 := hide hb5; clear ho5 hx5 hb5)
          | fail)
      clear v0 v1
      go_wp2_with fail
      have hb9 := ((HB5.out.set_ 0 (.int .i64 x0)).set_ 1 (.int .i64 x1)).set_ 2 (.slice A5 x2 c5)
      have HX9 := hide (show Ext w (((w5.setCell ⟨w.heap.size, 0, none⟩ (.int .i64 x0)).setCell ⟨w.heap.size, 1, none⟩ (.int .i64 x1)).setCell ⟨w.heap.size, 2, none⟩ (.slice A5 x2 c5)) from
        ((HX5.out.setCell (p := ⟨w.heap.size, 0, none⟩) (Nat.le_refl _) _).setCell (p := ⟨w.heap.size, 1, none⟩) (Nat.le_refl _) _).setCell (p := ⟨w.heap.size, 2, none⟩) (Nat.le_refl _) _)
      have HO9 := hide (show (((w5.setCell ⟨w.heap.size, 0, none⟩ (.int .i64 x0)).setCell ⟨w.heap.size, 1, none⟩ (.int .i64 x1)).setCell ⟨w.heap.size, 2, none⟩ (.slice A5 x2 c5)).ownsRow w.heap.size 5 1 (.slice A5 x2 c5) x2 (bytesV ((bs.drop 3).take x2)) from
        have ho := own_mono HO5.out (show w.heap.size ≤ _ from HX1.out.size)
        have hne := own_blk_ne ho HB5.out (by decide)
        own_far (own_far (own_far ho hne _) hne _) hne _)
      generalize ((w5.setCell ⟨w.heap.size, 0, none⟩ (.int .i64 x0)).setCell ⟨w.heap.size, 1, none⟩ (.int .i64 x1)).setCell ⟨w.heap.size, 2, none⟩ (.slice A5 x2 c5) = W9 at hb9 HX9 HO9 ⊢
      have s0 : W9.cell? ⟨w.heap.size, 0, none⟩ = some (.int .i64 x0) := hb9.cell 0
      have s1 : W9.cell? ⟨w.heap.size, 1, none⟩ = some (.int .i64 x1) := hb9.cell 1
      have s2 : W9.cell? ⟨w.heap.size, 2, none⟩ = some (.slice A5 x2 c5) := hb9.cell 2
      refine bodyPost_ret (v := .tuple #[.agg #[.int .i64 x0, .int .i64 x1, .slice A5 x2 c5], .slice A2 n2 c2, .bool true]) (by simp [results, Tryd.results16, go_sem, s0, s1, s2]) rfl ⟨HX9.out, Or.inr ⟨⟨x0, x1, A5, x2, c5, (bs.drop 3).take x2⟩, A2, n2, c2, ?_, ?_, rfl, HO9.out, HR2.out, ?_, ?_⟩⟩
      · rw [HPL.out, if_neg (by rw [HL.out]; omega)]; rfl
      · constructor <;> dsimp only <;> omega
      · have := HN2.out; have := HC2.out; omega
      · have := HC2.out; unfold maxLen; omega
end Go.Proofs.YtmcgkdifieohlaaDoor
