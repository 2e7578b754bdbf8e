/- Memory of words.fields; the contracts of its methods. -/
import Derived.Test.YtapjfiifpfoppaaDoorWPrn
import Derived.Test.YtapjfiifpfoppaaDoorWExpP
namespace Go.Proofs.YtapjfiifpfoppaaDoor
open Go.RowKit
set_option linter.unusedVariables false

def strsV (l : List (List UInt8)) : List Value := l.map fun x => .string (str x)
theorem strsV_append (a b : List (List UInt8)) : strsV (a ++ b) = strsV a ++ strsV b := by simp [strsV]
/-- Block gf is the fields f; nothing that was there in w0 was changed. -/
structure FdAt (w0 : World) (gf : Nat) (f : FldD) (w : World) : Prop where
  box : ∃ A c, Blk w gf 58 #[.slice A f.out.length c, .string (str f.now), .bool f.some] ∧ w.ownsRow w0.heap.size 9 1 (.slice A f.out.length c) f.out.length (strsV f.out)
  base : w0.heap.size ≤ gf
  ext : Ext w0 w
section
variable {w0 w w' : World} {gf : Nat} {f : FldD}
theorem FdAt.extend (h : FdAt w0 gf f w) (hx : Ext w w') : FdAt w0 gf f w' := by
  obtain ⟨A, c, h1, h2⟩ := h.box
  exact ⟨⟨A, c, h1.ext hx, hx.own h2⟩, h.base, h.ext.trans hx⟩
theorem FdAt.put (h : FdAt w0 gf f w) (x : List UInt8) (b : Bool) : FdAt w0 gf ⟨f.out, x, b⟩ ((w.setCell ⟨gf, 1, none⟩ (.string (str x))).setCell ⟨gf, 2, none⟩ (.bool b)) := by
  obtain ⟨A, c, h1, h2⟩ := h.box
  have n1 := own_blk_ne h2 h1 (by decide)
  have k1 := (h1.set_ 1 (.string (str x))).set_ 2 (.bool b)
  exact ⟨⟨A, c, k1, own_far (own_far h2 n1 _) n1 _⟩, h.base, (h.ext.setCell (p := ⟨gf, 1, none⟩) h.base _).setCell (p := ⟨gf, 2, none⟩) h.base _⟩
theorem FdAt.more (h : FdAt w0 gf f w) {U W : World} {A A' : Option Addr} {c c' : Nat} (hx : Ext w U) (hb : Blk w gf 58 #[.slice A f.out.length c, .string (str f.now), .bool f.some])
    (hw : w.ownsRow w0.heap.size 9 1 (.slice A f.out.length c) f.out.length (strsV f.out))
    (ho : W.ownsRow w0.heap.size 9 1 (.slice A' (f.out.length + 1) c') (f.out.length + 1) (strsV f.out ++ [.string (str f.now)])) (hg : U.grownBy W (Value.ownBlock (.slice A f.out.length c))) :
    FdAt w0 gf ⟨f.out ++ [f.now], f.now, f.some⟩ (W.setCell ⟨gf, 0, none⟩ (.slice A' (f.out.length + 1) c')) := by
  have hwu := hx.own hw
  have hbu := hb.ext hx
  have n1 : some gf ≠ Value.ownBlock (.slice A f.out.length c) := Ne.symm (own_blk_ne hwu hbu (by decide))
  have hbw := hbu.grown hg n1
  have n2 : Value.ownBlock (.slice A' (f.out.length + 1) c') ≠ some gf := own_blk_ne ho hbw (by decide)
  have hlen : (f.out ++ [f.now]).length = f.out.length + 1 := by simp
  refine ⟨⟨A', c', ?_, ?_⟩, h.base, ((h.ext.trans hx).grown hg (fun k hk => (hwu.lt k hk).1)).setCell h.base _⟩
  · show Blk _ gf _ #[.slice A' (f.out ++ [f.now]).length c', .string (str f.now), .bool f.some]
    rw [hlen]
    exact hbw.set_ 0 _
  · show World.ownsRow _ _ _ _ (.slice A' (f.out ++ [f.now]).length c') (f.out ++ [f.now]).length (strsV (f.out ++ [f.now]))
    rw [hlen, strsV_append]
    exact own_far ho n2 _
end
set_option maxHeartbeats 4000000 in
theorem addF_any (w0 : World) (gf : Nat) (f : FldD) (w : World) (h : FdAt w0 gf f w) (x : List UInt8) (hx : x.length ≤ 1000000) (hn : f.now.length ≤ 1000000) :
    Calls Tryd.prog 25 #[.pointer (some ⟨gf, 0, none⟩), .string (str x)] w fun e w' => e = .returned (.tuple #[]) ∧ FdAt w0 gf (addF f x) w' := by
  obtain ⟨A, c, hb, ho⟩ := h.box
  have c1 : w.cell? ⟨gf, 1, none⟩ = some (.string (str f.now)) := hb.cell 1
  have c2 : w.cell? ⟨gf, 2, none⟩ = some (.bool f.some) := hb.cell 2
  have f1 : w.frozen? ⟨gf, 1, none⟩ = false := hb.frozen 1
  have f2 : w.frozen? ⟨gf, 2, none⟩ = false := hb.frozen 2
  have z1 : (str f.now).size = f.now.length := str_size _
  have z2 : (str x).size = x.length := str_size _
  have e1 : str f.now ++ str x = str (f.now ++ x) := str_append _ _
  have HZ := hide (show FdAt w0 gf (addF f x) ((w.setCell ⟨gf, 1, none⟩ (.string (str (f.now ++ x)))).setCell ⟨gf, 2, none⟩ (.bool true)) from h.put (f.now ++ x) true)
  clear h hb ho
  generalize str f.now = S1 at *
  generalize str (f.now ++ x) = S3 at *
  go_enter Tryd.func25, Tryd.ntmps25
  go_wp2_with fail
  (first | go_end0 | ((try simp only [Exit.inBlock, Exit.then]); refine bodyPost_ret (results_none rfl _ _ _) rfl ?_))
  exact ⟨rfl, HZ.out⟩
def opEnd : Op := Op.load 31 (Operand.tmp 9)
theorem opEnd_eq : opEnd = Op.load 31 (Operand.tmp 9) := rfl
set_option maxHeartbeats 8000000 in
set_option maxRecDepth 100000 in
theorem endF_any (w0 : World) (gf : Nat) (f : FldD) (w : World) (h : FdAt w0 gf f w) (hn : f.out.length ≤ 1000000) :
    Calls Tryd.prog 28 #[.pointer (some ⟨gf, 0, none⟩)] w fun e w' => e = .returned (.tuple #[]) ∧ FdAt w0 gf (endF f) w' := by
  obtain ⟨i0, hi0, hz0, hz1, hz2⟩ := info_parts string_info
  obtain ⟨A, c, hb, ho⟩ := h.box
  have HM := hide h
  have HB := hide hb
  have HO := hide ho
  have c0 : w.cell? ⟨gf, 0, none⟩ = some (.slice A f.out.length c) := hb.cell 0
  have c1 : w.cell? ⟨gf, 1, none⟩ = some (.string (str f.now)) := hb.cell 1
  have c2 : w.cell? ⟨gf, 2, none⟩ = some (.bool f.some) := hb.cell 2
  have f0 : w.frozen? ⟨gf, 0, none⟩ = false := hb.frozen 0
  have f1 : w.frozen? ⟨gf, 1, none⟩ = false := hb.frozen 1
  have f2 : w.frozen? ⟨gf, 2, none⟩ = false := hb.frozen 2
  have HE := hide (show endF f = ⟨if f.some = true then f.out ++ [f.now] else f.out, [], false⟩ from rfl)
  have hstr : str ([] : List UInt8) = ⟨#[]⟩ := rfl
  cases hs : f.some
  · rw [hs] at c2 HE
    rw [if_neg (by decide)] at HE
    have HZ := hide (show FdAt w0 gf (endF f) ((w.setCell ⟨gf, 1, none⟩ (.string ⟨#[]⟩)).setCell ⟨gf, 2, none⟩ (.bool false)) by rw [HE.out, ← hstr]; exact h.put [] false)
    clear h hb ho hs hstr HM HB HO HE
    go_enter Tryd.func28, Tryd.ntmps28
    go_wp2_with fail
    (first | go_end0 | ((try simp only [Exit.inBlock, Exit.then]); refine bodyPost_ret (results_none rfl _ _ _) rfl ?_))
    exact ⟨rfl, HZ.out⟩
  · rw [hs] at c2 HE
    rw [if_pos rfl] at HE
    have n1 : some gf ≠ Value.ownBlock (.slice A f.out.length c) := Ne.symm (own_blk_ne ho hb (by decide))
    have HN1 := hide n1
    have hsz := h.ext.size
    obtain ⟨np, hnp⟩ : ∃ np, f.out.length = np := ⟨_, rfl⟩
    have HNP := hide hnp
    have HB0 := HB
    rw [hnp] at c0 n1 HN1 hn ho HB0
    have HO2 := hide ho
    obtain ⟨X, hX⟩ : ∃ X, str f.now = X := ⟨_, rfl⟩
    have HX := hide hX
    rw [hX] at c1
    have HSTR := hide hstr
    clear h hb ho hnp hX hs hstr f1 f2
    go_enter Tryd.func28, Tryd.ntmps28
    go_upto_region 1 with fail
    rw [← opEnd_eq]
    have hOp := opEnd_eq
    have z1 : ∀ o, (w.alloc o).cell? ⟨gf, 0, none⟩ = some (.slice A np c) := fun o => ((Ext.refl w).alloc o).cell c0
    have z2 : ∀ o, (w.drew.alloc o).cell? ⟨gf, 0, none⟩ = some (.slice A np c) := fun o => ((Ext.refl w).drew.alloc o).cell c0
    have z3 : ∀ o, (w.alloc o).drew.cell? ⟨gf, 0, none⟩ = some (.slice A np c) := fun o => ((Ext.refl w).alloc o).drew.cell c0
    have z4 : w.drew.cell? ⟨gf, 0, none⟩ = some (.slice A np c) := c0
    go_region_held3 (fun w' => w'.cell? ⟨gf, 1, none⟩ = some (.string X)) (first | exact k7 | exact farC k7 (by decide) _ | exact c1 | exact Ext.cell (w := w) (by ((repeat (first | with_reducible exact Ext.refl _ | with_reducible assumption | with_reducible refine Ext.alloc ?_ _ | with_reducible refine Ext.drew ?_ | with_reducible refine Ext.drewN ?_ _ | with_reducible refine Ext.setCell ?_ (by first | exact Nat.le_refl _ | assumption | (simp; done) | omega) _ | with_reducible refine Ext.trans ?_ (by with_reducible assumption))); done)) c1 | go_keep | fail)
      (first | (refine step_append_any _ (by rfl) (.tmp 10) (.tmp 15) 31 (by rfl) w0.heap.size 9 i0 _ 1 16 Tryd.underlying31 hi0 hz0 hz1 hz2 rfl (by omega) (.slice A np c) np (strsV f.out) (by rfl) (Ext.own (w := w) (by ((repeat (first | with_reducible exact Ext.refl _ | with_reducible assumption | with_reducible refine Ext.alloc ?_ _ | with_reducible refine Ext.drew ?_ | with_reducible refine Ext.drewN ?_ _ | with_reducible refine Ext.setCell ?_ (by first | exact Nat.le_refl _ | assumption | (simp; done) | omega) _ | with_reducible refine Ext.trans ?_ (by with_reducible assumption))); done)) HO2.out) _ _ 1 1 [.string X] (by rfl) (by first | exact (Blk.new w.drew 9 #[.string X]).rowsF 1 1 rfl | exact (Blk.new w 9 #[.string X]).drew.rowsF 1 1 rfl | exact (Blk.new w 9 #[.string X]).rowsF 1 1 rfl) (by simp [Value.oneCell']) (by simp only [maxLen]; omega) (by omega) (Nat.le_trans hsz (Ext.size (w := w) (by ((repeat (first | with_reducible exact Ext.refl _ | with_reducible assumption | with_reducible refine Ext.alloc ?_ _ | with_reducible refine Ext.drew ?_ | with_reducible refine Ext.drewN ?_ _ | with_reducible refine Ext.setCell ?_ (by first | exact Nat.le_refl _ | assumption | (simp; done) | omega) _ | with_reducible refine Ext.trans ?_ (by with_reducible assumption))); done)))) ?_; intro A7 c7 w7 ho7 hg7 ha7; have k7 : w7.cell? ⟨gf, 1, none⟩ = some (.string X) := hg7.cell (Ext.cell (w := w) (by ((repeat (first | with_reducible exact Ext.refl _ | with_reducible assumption | with_reducible refine Ext.alloc ?_ _ | with_reducible refine Ext.drew ?_ | with_reducible refine Ext.drewN ?_ _ | with_reducible refine Ext.setCell ?_ (by first | exact Nat.le_refl _ | assumption | (simp; done) | omega) _ | with_reducible refine Ext.trans ?_ (by with_reducible assumption))); done)) c1) n1; have k8 : w7.cell? ⟨gf, 0, none⟩ = some (.slice A np c) := hg7.cell (Ext.cell (w := w) (by ((repeat (first | with_reducible exact Ext.refl _ | with_reducible assumption | with_reducible refine Ext.alloc ?_ _ | with_reducible refine Ext.drew ?_ | with_reducible refine Ext.drewN ?_ _ | with_reducible refine Ext.setCell ?_ (by first | exact Nat.le_refl _ | assumption | (simp; done) | omega) _ | with_reducible refine Ext.trans ?_ (by with_reducible assumption))); done)) c0) n1; have k9 : w7.frozen? ⟨gf, 0, none⟩ = false := (Blk.grown (Blk.ext HB0.out (by ((repeat (first | with_reducible exact Ext.refl _ | with_reducible assumption | with_reducible refine Ext.alloc ?_ _ | with_reducible refine Ext.drew ?_ | with_reducible refine Ext.drewN ?_ _ | with_reducible refine Ext.setCell ?_ (by first | exact Nat.le_refl _ | assumption | (simp; done) | omega) _ | with_reducible refine Ext.trans ?_ (by with_reducible assumption))); done))) hg7 HN1.out).frozen 0) | fail)
    all_goals
      obtain rfl := HNP.out
      obtain rfl := HX.out
      have HZ := hide (HM.out.more (by ((repeat (first | with_reducible exact Ext.refl _ | with_reducible assumption | with_reducible refine Ext.alloc ?_ _ | with_reducible refine Ext.drew ?_ | with_reducible refine Ext.drewN ?_ _ | with_reducible refine Ext.setCell ?_ (by first | exact Nat.le_refl _ | assumption | (simp; done) | omega) _ | with_reducible refine Ext.trans ?_ (by with_reducible assumption))); done)) HB.out HO.out ho7 hg7)
      clear ho7 hg7 ha7 k7 k8 k9 z1 z2 z3 z4 hOp c0 c1 n1 HB HO HO2 HN1 HB0
      generalize w7.setCell ⟨gf, 0, none⟩ (.slice A7 (f.out.length + 1) c7) = W9 at *
      obtain ⟨A9, c9, hb9, ho9⟩ := HZ.out.box
      have f1 : W9.frozen? ⟨gf, 1, none⟩ = false := hb9.frozen 1
      have f2 : W9.frozen? ⟨gf, 2, none⟩ = false := hb9.frozen 2
      have d1 : W9.cell? ⟨gf, 1, none⟩ = some (.string (str f.now)) := hb9.cell 1
      have d2 : W9.cell? ⟨gf, 2, none⟩ = some (.bool f.some) := hb9.cell 2
      have HZ2 := hide (show FdAt w0 gf (endF f) ((W9.setCell ⟨gf, 1, none⟩ (.string ⟨#[]⟩)).setCell ⟨gf, 2, none⟩ (.bool false)) by rw [HE.out, ← HSTR.out]; exact HZ.out.put [] false)
      clear hb9 ho9 HZ
      go_wp2_with fail
      (first | go_end0 | ((try simp only [Exit.inBlock, Exit.then]); refine bodyPost_ret (results_none rfl _ _ _) rfl ?_))
      exact ⟨rfl, HZ2.out⟩
end Go.Proofs.YtapjfiifpfoppaaDoor
