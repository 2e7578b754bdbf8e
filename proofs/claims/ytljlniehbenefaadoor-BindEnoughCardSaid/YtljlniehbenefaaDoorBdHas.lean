/- The contract of bind.has. -/
import Derived.Test.YtljlniehbenefaaDoorBdWords
import Derived.Test.YtljlniehbenefaaDoorBdLinkP
namespace Go.Proofs.YtljlniehbenefaaDoor
open Go.RowKit
set_option linter.unusedVariables false

theorem str_ne_list {a b : Bs} (h : str a ≠ str b) : ((str a).toList == (str b).toList) = false := by
  rw [Go.Lib.toList_data, Go.Lib.toList_data, str_list, str_list]
  exact beq_eq_false_iff_ne.2 (fun e => h (by rw [e]))
def hasP (o : ObD) (s : Bs) : Bool := o.names.any fun n => n.name == s
def HasRel (w1 : World) (nms : List NmD) (s : Bs) (v10 : Value) (wr : World) : Prop := ∃ k : Nat, k ≤ nms.length ∧ v10 = .int .i64 k ∧ (∀ j (hj : j < nms.length), j < k → nms[j].name ≠ s) ∧ Ext w1 wr
set_option maxHeartbeats 8000000 in
set_option maxRecDepth 100000 in
theorem has_any (o : ObD) (v : ObV) (s : Bs) (w : World) (h : ObRd w o v) (hsm : ObSm o) :
    Calls Tryd.prog 25 #[.agg v.cells, .string (str s)] w fun e w' => e = .returned (.bool (hasP o s)) ∧ Ext w w' := by
  obtain ⟨A1, n1, c1, A2, n2, c2, A3, n3, c3, A4, n4, c4⟩ := v
  have hl3 : o.names.length = n3 := h.l3
  have hn3 : n3 ≤ 100000 := by have := hsm.nms; omega
  have HR := hide h.names
  dsimp only at HR
  show Calls Tryd.prog 25 #[.agg #[.slice A1 n1 c1, .slice A2 n2 c2, .slice A3 n3 c3, .slice A4 n4 c4], .string (str s)] w _
  have hx0 := (Ext.refl w).alloc (.cells #[.slice A1 n1 c1, .slice A2 n2 c2, .slice A3 n3 c3, .slice A4 n4 c4] obT)
  have HX0 := hide hx0
  have hb0 := Blk.new w obT #[.slice A1 n1 c1, .slice A2 n2 c2, .slice A3 n3 c3, .slice A4 n4 c4]
  clear h hsm hx0
  go_enter Tryd.func25, Tryd.ntmps25
  go_upto_region 1 with fail
  generalize w.alloc (.cells #[.slice A1 n1 c1, .slice A2 n2 c2, .slice A3 n3 c3, .slice A4 n4 c4] obT) = W at *
  have p2 : W.cell? ⟨w.heap.size, 2, none⟩ = some (.slice A3 n3 c3) := hb0.cell 2
  clear hb0
  go_wp2_with fail
  clear p2
  go_loopw [10] (HasRel W o.names s) (fun i _ => n3 - (intOf i).toNat)
  case atStart => exact ⟨0, Nat.zero_le _, rfl, fun j _ hj => absurd hj (by omega), Ext.refl _⟩
  case round =>
    obtain ⟨k, hk, rfl, hno, hx⟩ := hrel
    have HNO := hide hno
    have HX := hide hx
    clear hno hx
    by_cases hlt : k < n3
    · have hkl : k < o.names.length := by omega
      have hr := (HX0.out.trans HX.out).reads HR.out (Nat.le_refl _)
      obtain ⟨b, off, rfl, -⟩ := hr.addr (by omega) (by omega)
      have q0 := Reads.elem nmC_len hr k hkl (by omega) 0 (by omega) rfl
      have q1 := Reads.elem nmC_len hr k hkl (by omega) 1 (by omega) rfl
      have q2 := Reads.elem nmC_len hr k hkl (by omega) 2 (by omega) rfl
      have q3 := Reads.elem nmC_len hr k hkl (by omega) 3 (by omega) rfl
      rw [Nat.add_zero] at q0
      have HMM := hide (List.getElem_mem hkl)
      have HNX := hide (show o.names[k].name ≠ s → ∀ j (hj : j < o.names.length), j < k + 1 → o.names[j].name ≠ s from fun h0 j hj hjk => by
        by_cases e : j = k
        · subst e; exact h0
        · exact HNO.out j hj (by omega))
      have HYS := hide (show o.names[k].name = s → hasP o s = true from fun h0 => List.any_eq_true.2 ⟨_, List.getElem_mem hkl, by simpa using h0⟩)
      clear HMM hr
      generalize o.names[k] = x at *
      obtain ⟨nm, wh, pos, wk⟩ := x
      dsimp only at q0 q1 q2 q3 HNX HYS
      have hx9 := (Ext.refl wr).alloc (.cells #[.string (str nm), .int .i64 wh, .int .i64 pos, .bool wk] nmT)
      have hb9 := Blk.new wr nmT #[.string (str nm), .int .i64 wh, .int .i64 pos, .bool wk]
      have HX9 := hide (HX.out.trans hx9)
      clear hx9
      go_upto_region 4 with fail
      generalize wr.alloc (.cells #[.string (str nm), .int .i64 wh, .int .i64 pos, .bool wk] nmT) = W9 at *
      generalize wr.heap.size = gp at *
      have p0 : W9.cell? ⟨gp, 0, none⟩ = some (.string (str nm)) := hb9.cell 0
      clear q0 q1 q2 q3 hb9
      by_cases he : nm = s
      · have HY := hide (HYS.out he)
        have hes : (str nm).toList = (str s).toList := by rw [he]
        have t1 : ((str nm).toList == (str s).toList) = true := by rw [hes]; simp
        clear hes HYS HNX
        go_wp2_with fail
        go_ret
        exact ⟨by rw [HY.out]; rfl, HX0.out.trans HX9.out⟩
      · have HN := hide (HNX.out he)
        have hne : str nm ≠ str s := fun h => he (str_inj h)
        have t1 : ((str nm).toList == (str s).toList) = false := str_ne_list hne
        have t3 : decide (str nm = str s) = false := decide_eq_false hne
        clear HYS HNX hne
        go_wp2_with fail
        go_roundw
        case rel => exact ⟨k + 1, by omega, by go_num, HN.out, HX9.out⟩
        case measure => simp [intOf]; omega
    · obtain rfl : k = n3 := by omega
      have HF := hide (show hasP o s = false from by
        unfold hasP
        rw [List.any_eq_false]
        intro n hn
        obtain ⟨j, hj, rfl⟩ := List.mem_iff_getElem.1 hn
        simpa using HNO.out j hj (by omega))
      go_wp2_with fail
      go_ret
      exact ⟨by rw [HF.out]; rfl, HX0.out.trans HX.out⟩
end Go.Proofs.YtljlniehbenefaaDoor
