/- The contract of (*Unit).put. -/
import Derived.Test.YtikbfmjhmjkkgaaDoorAmMem
namespace Go.Proofs.YtikbfmjhmjkkgaaDoor
open Go.RowKit
set_option linter.unusedVariables false

def opLdN : Op := Op.load 26 (Operand.tmp 13)
theorem opLdN_eq : opLdN = Op.load 26 (Operand.tmp 13) := rfl
/-- The needs behind an append. -/
def putN (u : UnD) (need : Bs) (kind : Nat) : UnD := ⟨u.code, u.marks, if need = [] then u.needs else u.needs ++ [(4 * u.code.length, need, kind)]⟩
theorem put_code (u : UnD) (x : Nat) (need : Bs) (kind : Nat) : u.put x need kind = ⟨(putN u need kind).code ++ [x], (putN u need kind).marks, (putN u need kind).needs⟩ := rfl
theorem putN_nil (u : UnD) (kind : Nat) : putN u [] kind = u := by unfold putN; rw [if_pos rfl]
theorem putN_cons (u : UnD) (need : Bs) (kind : Nat) (h : need ≠ []) : putN u need kind = ⟨u.code, u.marks, u.needs ++ [(4 * u.code.length, need, kind)]⟩ := by unfold putN; rw [if_neg h]
theorem emp_eq : (str ([] : Bs)).toList.isEmpty = true := by rw [Go.Lib.toList_data, str_list]; rfl
theorem emp_ne {l : Bs} (h : l ≠ []) : (str l).toList.isEmpty = false := by
  rw [Go.Lib.toList_data, str_list]
  cases l with
  | nil => exact absurd rfl h
  | cons a l => rfl
def PutMid (w0 wk : World) (gu : Nat) (u : UnD) (wx : World) : Prop := UnOk w0 wk gu u wx
set_option maxHeartbeats 8000000 in
set_option maxRecDepth 100000 in
theorem put_any (w0 wk : World) (gu : Nat) (u : UnD) (x : Nat) (need : Bs) (kind : Nat) (w : World) (h : UnOk w0 wk gu u w) (hn1 : u.code.length ≤ 1000) (hn3 : u.needs.length ≤ 1000) :
    Calls Tryd.prog 50 #[.pointer (some ⟨gu, 0, none⟩), .int .u32 (x : Int), .string (str need), .int .i64 (kind : Int)] w fun e w' => e = .returned (.tuple #[]) ∧ UnOk w0 wk gu (u.put x need kind) w' := by
  obtain ⟨i0, hi0, hz0, hz1, hz2⟩ := info_parts need_info
  obtain ⟨i1, hi1, hz3, hz4, hz5⟩ := info_parts word_info
  obtain ⟨n1, n2, n3, A1, A2, A3, c1, c2, c3, h⟩ := h
  have HU := hide h
  have q0 : w.cell? ⟨gu, 0, none⟩ = some (.slice A1 n1 c1) := h.box.cell 0
  have q2 : w.cell? ⟨gu, 2, none⟩ = some (.slice A3 n3 c3) := h.box.cell 2
  have f2 : w.frozen? ⟨gu, 2, none⟩ = false := h.box.frozen 2
  have hs0 := h.ext.size
  rw [h.l1] at hn1
  rw [h.l3] at hn3
  clear h
  go_enter Tryd.func50, Tryd.ntmps50
  go_upto_if 9 with fail
  go_cut [] (fun wx => PutMid w0 wk gu (putN u need kind) wx)
  case first =>
    by_cases hne : need = []
    · subst hne
      simp only [emp_eq, Bool.not_true]
      have HM := hide (show PutMid w0 wk gu (putN u [] kind) w from by rw [putN_nil]; exact ⟨n1, n2, n3, A1, A2, A3, c1, c2, c3, HU.out⟩)
      go_wp2_with fail
      go_meet
      exact HM.out
    · have HPN := hide (putN_cons u need kind hne)
      obtain ⟨m4, hm4⟩ : ∃ m : Nat, 4 * n1 = m := ⟨_, rfl⟩
      have hwr : IntKind.i64.wrap (4 * (n1 : Int)) = (m4 : Int) := by rw [IntKind.wrap_i64]; omega
      have HM4 := hide hm4
      clear hm4
      simp only [emp_ne hne, Bool.not_false]
      clear hne
      go_upto_region 1 with fail
      rw [← opLdN_eq]
      have hOp := opLdN_eq
      have z1 : ∀ o, (w.alloc o).cell? ⟨gu, 2, none⟩ = some (.slice A3 n3 c3) := fun o => ((Ext.refl w).alloc o).cell q2
      have z2 : ∀ o, (w.drew.alloc o).cell? ⟨gu, 2, none⟩ = some (.slice A3 n3 c3) := fun o => ((Ext.refl w).drew.alloc o).cell q2
      have z3 : ∀ o, (w.alloc o).drew.cell? ⟨gu, 2, none⟩ = some (.slice A3 n3 c3) := fun o => ((Ext.refl w).alloc o).drew.cell q2
      have z4 : w.drew.cell? ⟨gu, 2, none⟩ = some (.slice A3 n3 c3) := q2
      go_region_held3 (fun w' => w'.cell? ⟨gu, 0, none⟩ = some (.slice A1 n1 c1)) (first | exact k7 | exact k8 | exact q0 | exact Ext.cell (w := w) (by ((repeat (first | with_reducible exact Ext.refl _ | with_reducible assumption | with_reducible refine Ext.alloc ?_ _ | with_reducible refine Ext.drew ?_ | with_reducible refine Ext.drewN ?_ _ | with_reducible refine Ext.setCell ?_ (by first | exact Nat.le_refl _ | assumption | (simp; done) | omega) _ | with_reducible refine Ext.trans ?_ (by with_reducible assumption))); done)) q0 | fail)
        (first | (refine step_append_any _ (by rfl) (.tmp 14) (.tmp 24) 26 (by rfl) w0.heap.size ndT i0 _ 3 32 Tryd.underlying26 hi0 hz0 hz1 hz2 rfl (by omega) (.slice A3 n3 c3) n3 (u.needs.flatMap needC) (by rfl) (Ext.own (w := w) (by ((repeat (first | with_reducible exact Ext.refl _ | with_reducible assumption | with_reducible refine Ext.alloc ?_ _ | with_reducible refine Ext.drew ?_ | with_reducible refine Ext.drewN ?_ _ | with_reducible refine Ext.setCell ?_ (by first | exact Nat.le_refl _ | assumption | (simp; done) | omega) _ | with_reducible refine Ext.trans ?_ (by with_reducible assumption))); done)) HU.out.rn) _ _ 1 1 [.int .i64 (m4), .string (str need), .int .i64 (kind : Int)] (by rfl) (by first | exact rows_blk (Blk.new w.drew ndT #[.int .i64 (m4), .string (str need), .int .i64 (kind : Int)]) 1 3 rfl | exact rows_blk (Blk.new w ndT #[.int .i64 (m4), .string (str need), .int .i64 (kind : Int)]).drew 1 3 rfl | exact rows_blk (Blk.new w ndT #[.int .i64 (m4), .string (str need), .int .i64 (kind : Int)]) 1 3 rfl) (by simp [Value.oneCell']) (by simp only [maxLen]; omega) (by omega) (Nat.le_trans hs0 (Ext.size (w := w) (by ((repeat (first | with_reducible exact Ext.refl _ | with_reducible assumption | with_reducible refine Ext.alloc ?_ _ | with_reducible refine Ext.drew ?_ | with_reducible refine Ext.drewN ?_ _ | with_reducible refine Ext.setCell ?_ (by first | exact Nat.le_refl _ | assumption | (simp; done) | omega) _ | with_reducible refine Ext.trans ?_ (by with_reducible assumption))); done)))) ?_; intro A7 c7 w7 ho7 hg7 ha7; have hb7 := (HU.out.box.ext (w' := _) (by ((repeat (first | with_reducible exact Ext.refl _ | with_reducible assumption | with_reducible refine Ext.alloc ?_ _ | with_reducible refine Ext.drew ?_ | with_reducible refine Ext.drewN ?_ _ | with_reducible refine Ext.setCell ?_ (by first | exact Nat.le_refl _ | assumption | (simp; done) | omega) _ | with_reducible refine Ext.trans ?_ (by with_reducible assumption))); done))).grown hg7 (own_blk_ne (HU.out.rn) HU.out.box (by decide)).symm; have k7 : w7.cell? ⟨gu, 0, none⟩ = some (.slice A1 n1 c1) := hb7.cell 0; have k8 : (w7.setCell ⟨gu, 2, none⟩ (.slice A7 (n3 + 1) c7)).cell? ⟨gu, 0, none⟩ = some (.slice A1 n1 c1) := (hb7.set_ 2 _).cell 0; have k9 : w7.cell? ⟨gu, 2, none⟩ = some (.slice A3 n3 c3) := hb7.cell 2; have k10 : w7.frozen? ⟨gu, 2, none⟩ = false := hb7.frozen 2) | fail)
      all_goals
        have HM := hide (show PutMid w0 wk gu (putN u need kind) (w7.setCell ⟨gu, 2, none⟩ (.slice A7 (n3 + 1) c7)) from by rw [HPN.out, HU.out.l1, HM4.out]; exact ⟨n1, n2, n3 + 1, A1, A2, A7, c1, c2, c7, HU.out.needed (m4, need, kind) (by ((repeat (first | with_reducible exact Ext.refl _ | with_reducible assumption | with_reducible refine Ext.alloc ?_ _ | with_reducible refine Ext.drew ?_ | with_reducible refine Ext.drewN ?_ _ | with_reducible refine Ext.setCell ?_ (by first | exact Nat.le_refl _ | assumption | (simp; done) | omega) _ | with_reducible refine Ext.trans ?_ (by with_reducible assumption))); done)) ho7 hg7⟩)
        clear ho7 hg7 ha7 hb7 k7 k8 k9 k10
        go_wp2_with fail
        go_meet
        exact HM.out
  case rest =>
    obtain ⟨m1, m2, m3, B1, B2, B3, d1, d2, d3, hm⟩ := hcut
    have HM := hide hm
    have HL := hide (show m1 = n1 by rw [← hm.l1, ← HU.out.l1]; rfl)
    have e0 : wc.cell? ⟨gu, 0, none⟩ = some (.slice B1 m1 d1) := hm.box.cell 0
    have hm1 : m1 ≤ 1000 := by rw [HL.out]; exact hn1
    have HBX := hide (Blk.new wc wdT #[.int .u32 (x : Int)]).reads
    have HX := hide ((Ext.refl wc).alloc (.cells #[.int .u32 (x : Int)] wdT))
    clear hm q0 q2 f2
    go_wp2_with (at_builtin; refine wpList_append_any _ rfl (.tmp 32) (.tmp 34) 24 rfl w0.heap.size wdT i1 _ 1 4 Tryd.underlying24 hi1 hz3 hz4 hz5 rfl (by omega) _ m1 (u32V (putN u need kind).code) rfl (HX.out.own HM.out.rc) _ _ 1 1 [.int .u32 (x : Int)] rfl HBX.out (by simp [Value.oneCell']) (by simp only [maxLen]; omega) (by omega) (Nat.le_trans HM.out.ext.size HX.out.size) ?_; intro A4 c4 w4 ho4 hg4 ha4; have hb4 := (HM.out.box.ext HX.out).grown hg4 (own_blk_ne (HX.out.own HM.out.rc) (HM.out.box.ext HX.out) (by decide)).symm; have c40 : w4.cell? ⟨gu, 0, none⟩ = some (.slice B1 m1 d1) := hb4.cell 0; have f40 := hb4.frozen 0; have HN := hide (HM.out.coded x HX.out ho4 hg4); clear ho4 hg4 ha4 hb4)
    (first | go_end0 | ((try simp only [Exit.inBlock, Exit.then]); refine bodyPost_ret (results_none rfl _ _ _) rfl ?_))
    exact ⟨rfl, _, _, _, _, _, _, _, _, _, HN.out⟩
end Go.Proofs.YtikbfmjhmjkkgaaDoor
