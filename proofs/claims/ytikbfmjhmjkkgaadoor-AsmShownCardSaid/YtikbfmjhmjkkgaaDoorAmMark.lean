/- The contract of (*Unit).mark. -/
import Derived.Test.YtikbfmjhmjkkgaaDoorAmWord
namespace Go.Proofs.YtikbfmjhmjkkgaaDoor
open Go.RowKit
set_option linter.unusedVariables false

def opLdM : Op := Op.load 25 (Operand.tmp 27)
theorem opLdM_eq : opLdM = Op.load 25 (Operand.tmp 27) := rfl
theorem KeepS.growE {base n i gu : Nat} {v u : Value} {xs : List Value} {wr U w7 : World} {cs : Array Value} (hg : U.grownBy w7 v.ownBlock) (hx : Ext wr U) (ho : wr.ownsRow base mkT 2 v n xs) (hbox : Blk w7 gu unT cs) : KeepS wr (w7.setCell ⟨gu, i, none⟩ u) :=
  (KeepS.ext hx).trans (KeepS.grow (by decide) hg (hx.own ho) hbox)
def MaRel (w : World) (u : UnD) (name : Bs) (n2 : Nat) (v : Value) (wr : World) : Prop := ∃ k : Nat, k ≤ n2 ∧ v = .int .i64 (k : Int) ∧ Ext w wr ∧ ∀ j (h : j < u.marks.length), j < k → (u.marks[j]).1 ≠ name
theorem any_none {u : UnD} {name : Bs} (h : ∀ j (h : j < u.marks.length), (u.marks[j]).1 ≠ name) : (u.marks.any fun m => m.1 == name) = false := by
  rw [List.any_eq_false]
  intro x hx
  obtain ⟨j, hj, rfl⟩ := List.getElem_of_mem hx
  simpa using h j hj
theorem any_some {u : UnD} {name : Bs} {j : Nat} (hj : j < u.marks.length) (h : (u.marks[j]).1 = name) : (u.marks.any fun m => m.1 == name) = true := by
  rw [List.any_eq_true]
  exact ⟨u.marks[j], List.getElem_mem hj, by simpa using h⟩
set_option maxHeartbeats 8000000 in
set_option maxRecDepth 100000 in
theorem mark_any (w0 wk : World) (gu : Nat) (u : UnD) (name : Bs) (w : World) (h : UnOk w0 wk gu u w) (hr : Room u) (hl : name.length ≤ 4000) :
    Calls Tryd.prog 30 #[.pointer (some ⟨gu, 0, none⟩), .string (str name)] w fun e w' => ResOut w0 wk gu (markL u name) e w' ∧ KeepS w w' := by
  obtain ⟨i0, hi0, hz0, hz1, hz2⟩ := info_parts mark_info
  have HX0 := hide h.ext
  have HNA := hide (aname_any name w (by omega))
  have HML := hide (show markL u name = if nameB name = true then if (u.marks.any fun m => m.1 == name) = true then .err 5 else .ok ⟨u.code, u.marks ++ [(name, 4 * u.code.length)], u.needs⟩ else .err 22 from rfl)
  have HR := hide hr
  obtain ⟨n1, n2, n3, A1, A2, A3, c1, c2, c3, h⟩ := h
  have HU := hide h
  clear h hr
  cases hnb : nameB name with
  | false =>
    rw [hnb, if_neg (by decide)] at HML
    rw [hnb] at HNA
    clear hnb
    go_enter Tryd.func30, Tryd.ntmps30
    go_wp2_with fail
    refine HNA.out.mono ?_
    rintro e w1 ⟨rfl, rfl⟩
    go_wp2_with fail
    go_ret
    rw [HML.out]
    exact ⟨⟨rfl, by decide, HX0.out⟩, KeepS.ext (Ext.refl _)⟩
  | true =>
    rw [hnb, if_pos rfl] at HML
    rw [hnb] at HNA
    clear hnb
    have q1 : w.cell? ⟨gu, 1, none⟩ = some (.slice A2 n2 c2) := HU.out.box.cell 1
    go_enter Tryd.func30, Tryd.ntmps30
    go_wp2_with fail
    refine HNA.out.mono ?_
    rintro e w1 ⟨rfl, rfl⟩
    go_wp2_with fail
    clear q1
    go_loopw [15] (MaRel w u name n2) (fun v _ => n2 - (intOf v).toNat)
    case atStart => exact ⟨0, Nat.zero_le _, rfl, Ext.refl _, fun j h h0 => by omega⟩
    case round =>
      obtain ⟨k, hk, rfl, hx, hno⟩ := hrel
      have HX := hide hx
      have HNO := hide hno
      clear hx hno
      have hl2 := HU.out.l2
      have hn2 : n2 ≤ 2100 := by rw [← hl2]; exact HR.out.2.2
      by_cases hlt : k < n2
      · have hkl : k < u.marks.length := by omega
        have hrd := HX.out.reads (Reads.of_own HU.out.rm) (Nat.le_refl _)
        obtain ⟨b, off, rfl, -⟩ := hrd.addr (by omega) (by omega)
        have y0 := Reads.elem markC_len hrd k hkl (by omega) 0 (by omega) (u := .string (str (u.marks[k]).1)) rfl
        have y1 := Reads.elem markC_len hrd k hkl (by omega) 1 (by omega) (u := .int .i64 ((u.marks[k]).2 : Int)) rfl
        rw [Nat.add_zero] at y0
        have HKL := hide hkl
        by_cases he : (u.marks[k]).1 = name
        · have t2 : ((str (u.marks[k]).1).toList == (str name).toList) = true := by rw [str_eq_iff, decide_eq_true he]
          have HM2 := hide (any_some hkl he)
          rw [HM2.out, if_pos rfl] at HML
          have HB9 := hide (Blk.new wr mkT #[.string (str (u.marks[k]).1), .int .i64 ((u.marks[k]).2 : Int)])
          have HX9 := hide (HX.out.trans ((Ext.refl wr).alloc (.cells #[.string (str (u.marks[k]).1), .int .i64 ((u.marks[k]).2 : Int)] mkT)))
          generalize str (u.marks[k]).1 = X at *
          generalize ((u.marks[k]).2 : Int) = Y at *
          clear hrd hkl he hl2
          go_upto_region 6 with fail
          generalize wr.alloc (.cells #[.string X, .int .i64 Y] mkT) = W9 at *
          have z0 : W9.cell? ⟨wr.heap.size, 0, none⟩ = some (.string X) := HB9.out.cell 0
          clear y0 y1
          go_wp2_with fail
          go_ret
          rw [HML.out]
          exact ⟨⟨rfl, by decide, HX0.out.trans HX9.out⟩, KeepS.ext HX9.out⟩
        · have t2 : ((str (u.marks[k]).1).toList == (str name).toList) = false := by rw [str_eq_iff, decide_eq_false he]
          have HNE := hide he
          have HB9 := hide (Blk.new wr mkT #[.string (str (u.marks[k]).1), .int .i64 ((u.marks[k]).2 : Int)])
          have HX9 := hide (HX.out.trans ((Ext.refl wr).alloc (.cells #[.string (str (u.marks[k]).1), .int .i64 ((u.marks[k]).2 : Int)] mkT)))
          generalize str (u.marks[k]).1 = X at *
          generalize ((u.marks[k]).2 : Int) = Y at *
          clear hrd hkl he hl2
          go_upto_region 6 with fail
          generalize wr.alloc (.cells #[.string X, .int .i64 Y] mkT) = W9 at *
          have z0 : W9.cell? ⟨wr.heap.size, 0, none⟩ = some (.string X) := HB9.out.cell 0
          clear y0 y1
          go_wp2_with fail
          go_roundw
          case rel => exact ⟨k + 1, by omega, by go_num, HX9.out, fun j h1 h2 => by
            by_cases e : j = k
            · subst e; exact HNE.out
            · exact HNO.out j h1 (by omega)⟩
          case measure => simp [intOf]; omega
      · obtain rfl : k = n2 := by omega
        have hno := any_none (fun j h => HNO.out j h (by omega))
        rw [hno, if_neg (by decide)] at HML
        have hn1 : n1 ≤ 200 := by rw [← HU.out.l1]; exact HR.out.1
        obtain ⟨m4, hm4⟩ : ∃ m : Nat, 4 * n1 = m := ⟨_, rfl⟩
        have hwr : IntKind.i64.wrap (4 * (n1 : Int)) = (m4 : Int) := by rw [IntKind.wrap_i64]; omega
        have HM4 := hide hm4
        have HW := hide (HU.out.to HX.out)
        have q0 : wr.cell? ⟨gu, 0, none⟩ = some (.slice A1 n1 c1) := HW.out.box.cell 0
        have q1 : wr.cell? ⟨gu, 1, none⟩ = some (.slice A2 k c2) := HW.out.box.cell 1
        have hs0 := HW.out.ext.size
        clear hm4 hno hl2 hlt
        go_upto_region 9 with fail
        rw [← opLdM_eq]
        have hOp := opLdM_eq
        have z1 : ∀ o, (wr.alloc o).cell? ⟨gu, 1, none⟩ = some (.slice A2 k c2) := fun o => ((Ext.refl wr).alloc o).cell q1
        have z2 : ∀ o, (wr.drew.alloc o).cell? ⟨gu, 1, none⟩ = some (.slice A2 k c2) := fun o => ((Ext.refl wr).drew.alloc o).cell q1
        have z3 : ∀ o, (wr.alloc o).drew.cell? ⟨gu, 1, none⟩ = some (.slice A2 k c2) := fun o => ((Ext.refl wr).alloc o).drew.cell q1
        have z4 : wr.drew.cell? ⟨gu, 1, none⟩ = some (.slice A2 k c2) := q1
        go_region_held3 (fun w' => w'.cell? ⟨gu, 0, none⟩ = some (.slice A1 n1 c1)) (first | exact k7 | exact k8 | exact q0 | exact Ext.cell (w := wr) (by ((repeat (first | with_reducible exact Ext.refl _ | with_reducible assumption | with_reducible refine Ext.alloc ?_ _ | with_reducible refine Ext.drew ?_ | with_reducible refine Ext.drewN ?_ _ | with_reducible refine Ext.setCell ?_ (by first | exact Nat.le_refl _ | assumption | (simp; done) | omega) _ | with_reducible refine Ext.trans ?_ (by with_reducible assumption))); done)) q0 | fail)
          (first | (refine step_append_any _ (by rfl) (.tmp 28) (.tmp 37) 25 (by rfl) w0.heap.size mkT i0 _ 2 24 Tryd.underlying25 hi0 hz0 hz1 hz2 rfl (by omega) (.slice A2 k c2) k (u.marks.flatMap markC) (by rfl) (Ext.own (w := wr) (by ((repeat (first | with_reducible exact Ext.refl _ | with_reducible assumption | with_reducible refine Ext.alloc ?_ _ | with_reducible refine Ext.drew ?_ | with_reducible refine Ext.drewN ?_ _ | with_reducible refine Ext.setCell ?_ (by first | exact Nat.le_refl _ | assumption | (simp; done) | omega) _ | with_reducible refine Ext.trans ?_ (by with_reducible assumption))); done)) HW.out.rm) _ _ 1 1 [.string (str name), .int .i64 (m4 : Int)] (by rfl) (by first | exact rows_blk (Blk.new wr.drew mkT #[.string (str name), .int .i64 (m4 : Int)]) 1 2 rfl | exact rows_blk (Blk.new wr mkT #[.string (str name), .int .i64 (m4 : Int)]).drew 1 2 rfl | exact rows_blk (Blk.new wr mkT #[.string (str name), .int .i64 (m4 : Int)]) 1 2 rfl) (by simp [Value.oneCell']) (by simp only [maxLen]; omega) (by omega) (Nat.le_trans hs0 (Ext.size (w := wr) (by ((repeat (first | with_reducible exact Ext.refl _ | with_reducible assumption | with_reducible refine Ext.alloc ?_ _ | with_reducible refine Ext.drew ?_ | with_reducible refine Ext.drewN ?_ _ | with_reducible refine Ext.setCell ?_ (by first | exact Nat.le_refl _ | assumption | (simp; done) | omega) _ | with_reducible refine Ext.trans ?_ (by with_reducible assumption))); done)))) ?_; intro A7 c7 w7 ho7 hg7 ha7; have hb7 := (HW.out.box.ext (w' := _) (by ((repeat (first | with_reducible exact Ext.refl _ | with_reducible assumption | with_reducible refine Ext.alloc ?_ _ | with_reducible refine Ext.drew ?_ | with_reducible refine Ext.drewN ?_ _ | with_reducible refine Ext.setCell ?_ (by first | exact Nat.le_refl _ | assumption | (simp; done) | omega) _ | with_reducible refine Ext.trans ?_ (by with_reducible assumption))); done))).grown hg7 (own_blk_ne (HW.out.rm) HW.out.box (by decide)).symm; have k7 : w7.cell? ⟨gu, 0, none⟩ = some (.slice A1 n1 c1) := hb7.cell 0; have k8 : (w7.setCell ⟨gu, 1, none⟩ (.slice A7 (k + 1) c7)).cell? ⟨gu, 0, none⟩ = some (.slice A1 n1 c1) := (hb7.set_ 1 _).cell 0; have k9 : w7.cell? ⟨gu, 1, none⟩ = some (.slice A2 k c2) := hb7.cell 1; have k10 : w7.frozen? ⟨gu, 1, none⟩ = false := hb7.frozen 1) | fail)
        all_goals
          have HM := hide (HW.out.marked (name, m4) (by ((repeat (first | with_reducible exact Ext.refl _ | with_reducible assumption | with_reducible refine Ext.alloc ?_ _ | with_reducible refine Ext.drew ?_ | with_reducible refine Ext.drewN ?_ _ | with_reducible refine Ext.setCell ?_ (by first | exact Nat.le_refl _ | assumption | (simp; done) | omega) _ | with_reducible refine Ext.trans ?_ (by with_reducible assumption))); done)) ho7 hg7)
          have HKS := hide (KeepS.trans (KeepS.ext HX.out) (KeepS.growE (i := 1) (u := .slice A7 (k + 1) c7) hg7 (by ((repeat (first | with_reducible exact Ext.refl _ | with_reducible assumption | with_reducible refine Ext.alloc ?_ _ | with_reducible refine Ext.drew ?_ | with_reducible refine Ext.drewN ?_ _ | with_reducible refine Ext.setCell ?_ (by first | exact Nat.le_refl _ | assumption | (simp; done) | omega) _ | with_reducible refine Ext.trans ?_ (by with_reducible assumption))); done)) HW.out.rm hb7))
          clear ho7 hg7 ha7 hb7 k7 k8 k9 k10
          go_wp2_with fail
          go_ret
          rw [HML.out, HW.out.l1, HM4.out]
          exact ⟨⟨rfl, _, _, _, _, _, _, _, _, _, HM.out⟩, HKS.out⟩
end Go.Proofs.YtikbfmjhmjkkgaaDoor
