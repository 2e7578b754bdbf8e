/- The contract of Decode's first closure: one word more. -/
import Derived.Test.YtekijkdgmfdnbaaDoorObDs
namespace Go.Proofs.YtekijkdgmfdnbaaDoor
open Go.RowKit
set_option linter.unusedVariables false

section
variable {w0 w : World} {g2 gr gv go : Nat} {s : Option Bs} {o : ObD} {v : ObV}
theorem half_ds (h : DecSt w0 g2 gr gv go s o v w) :
    Calls Tryd.prog 22 #[.pointer (some ⟨gr, 0, none⟩)] w fun e w' => e = .returned (.int .i64 (hv s : Int)) ∧ w.grownBy w' (some gr) ∧ DecSt w0 g2 gr gv go (hs_ s) o v w' :=
  (half_rd gr s w0 w h.rd h.lr).mono (by rintro e w' ⟨h1, h2, h3⟩; exact ⟨h1, h2, h.read h2 h3⟩)
theorem text_ds (h : DecSt w0 g2 gr gv go s o v w) :
    Calls Tryd.prog 25 #[.pointer (some ⟨gr, 0, none⟩)] w fun e w' => e = .returned (.string (str (tv s))) ∧ w.grownBy w' (some gr) ∧ DecSt w0 g2 gr gv go (ts_ s) o v w' :=
  (text_rd gr s w0 w h.rd h.lr h.ext.size).mono (by rintro e w' ⟨h1, h2, h3⟩; exact ⟨h1, h2, h.read h2 h3⟩)
theorem take_ds (k : Nat) (hk : k ≤ 100000) (h : DecSt w0 g2 gr gv go s o v w) :
    Calls Tryd.prog 23 #[.pointer (some ⟨gr, 0, none⟩), .int .i64 (k : Int)] w fun e w' => (∃ A m c, e = .returned (.slice A m c) ∧ Reads w' w0.heap.size 1 A m (bytesV (kv k s)) ∧ m = (kv k s).length ∧ (A = none → m = 0)) ∧ w.grownBy w' (some gr) ∧ DecSt w0 g2 gr gv go (ks_ k s) o v w' :=
  (take_any k hk gr s w0 w h.rd h.lr).mono (by rintro e w' ⟨h1, h2, A, m, c, h3, h4, -, -, h5, h6, -⟩; exact ⟨⟨A, m, c, h3, h4, h5, h6⟩, h1, h.read h1 h2⟩)
theorem DecSt.rv0 (h : DecSt w0 g2 gr gv go s o v w) : w.cell? ⟨gv, 0, none⟩ = some (.pointer (some ⟨gr, 0, none⟩)) := h.rv.cell 0
end
theorem join16 (a b : Nat) (ha : a < 65536) (hb : b < 65536) : bits .or .u32 (a : Int) ((b : Int) * 65536) = ((a + 65536 * b : Nat) : Int) := by
  have := bits_join_low .u32 32 (by decide) (fun n h₀ h₁ => by rw [IntKind.wrap_u32]; omega) 16 (a : Int) ((b : Int) * 65536) (by omega) (by omega) (by omega) (by omega) (by omega) (by omega)
  rw [this]
  omega
def opD1 : Op := Op.load 22 (Operand.tmp 6)
theorem opD1_eq : opD1 = Op.load 22 (Operand.tmp 6) := rfl
theorem ext_atD {a b c : World} {r : Option Nat} (hg : b.grownBy c r) (h : Ext a b) : Ext a b := h
set_option maxHeartbeats 8000000 in
set_option maxRecDepth 100000 in
theorem each1_any (g2 gr gv go : Nat) (s : Option Bs) (o : ObD) (v : ObV) (w0 w : World) (h : DecSt w0 g2 gr gv go s o v w) (hl : o.code.length ≤ 100000) :
    Calls Tryd.prog 21 #[.pointer (some ⟨gv, 0, none⟩), .pointer (some ⟨go, 0, none⟩)] w fun e w' => e = .returned (.tuple #[]) ∧ ∃ v', DecSt w0 g2 gr gv go (wordM s).2 { o with code := o.code ++ [(wordM s).1] } v' w' := by
  have l1 := h.own.rd.l1
  obtain ⟨i0, hi0, hz0, hz1, hz2⟩ := info_parts u32_info
  have HH := hide h
  have z0 := h.rv0
  clear h
  go_enter Tryd.func21, Tryd.ntmps21
  go_wp2_with fail
  refine (half_ds HH.out).mono ?_
  rintro e w1 ⟨rfl, -, hst1⟩
  have HST1 := hide hst1
  have hx := hv_lt s
  have HW := hide (show ∀ v' w', DecSt w0 g2 gr gv go (hs_ (hs_ s)) { o with code := o.code ++ [hv s + 65536 * hv (hs_ s)] } v' w' → DecSt w0 g2 gr gv go (wordM s).2 { o with code := o.code ++ [(wordM s).1] } v' w' from fun _ _ h => h)
  have hy := hv_lt (hs_ s)
  have hj := join16 (hv s) (hv (hs_ s)) hx hy
  generalize hs_ s = s1 at *
  generalize hv s = x at *
  have hw1 : IntKind.u32.wrap (hv s1 : Int) = (hv s1 : Int) := by rw [IntKind.wrap_u32]; omega
  have hw2 : IntKind.u32.wrap ((hv s1 : Int) * 65536) = (hv s1 : Int) * 65536 := by rw [IntKind.wrap_u32]; omega
  clear hst1 HH z0
  go_upto_region 1 with fail
  rw [← opD1_eq]
  have hOp := opD1_eq
  have z0 := HST1.out.rv0
  obtain ⟨A1, n1, c1, A2, n2, c2, A3, n3, c3, A4, n4, c4⟩ := v
  have c0 : w1.cell? ⟨go, 0, none⟩ = some (.slice A1 n1 c1) := HST1.out.box.cell 0
  dsimp only at l1
  have HL1 := hide (show n1 + 1 ≤ maxLen by simp only [maxLen]; omega)
  have HL2 := hide (show (n1 + 1) * 4 ≤ 140737488355328 by omega)
  have HL3 := hide HST1.out.ext.size
  have m0 : w1.drew.cell? ⟨go, 0, none⟩ = some (.slice A1 n1 c1) := c0
  clear l1
  go_region_held3 (fun w' => w'.cell? ⟨gv, 0, none⟩ = some (.pointer (some ⟨gr, 0, none⟩)))
    (first | exact z0 | exact d0 | exact k0 | exact far1 k0 (Blk.ne_ HGV.out HGO.out (by decide)) _ | (refine Ext.cell (w := w6) ?_ d0; ((repeat (first | with_reducible exact Ext.refl _ | with_reducible assumption | with_reducible refine Ext.alloc ?_ _ | with_reducible refine Ext.drew ?_ | with_reducible refine Ext.drewN ?_ _ | with_reducible refine Ext.setCell ?_ (by first | exact Nat.le_refl _ | assumption | (simp; done) | omega) _ | with_reducible refine Ext.trans ?_ (by with_reducible assumption))); done)) | (refine Ext.cell (w := w1) ?_ z0; ((repeat (first | with_reducible exact Ext.refl _ | with_reducible assumption | with_reducible refine Ext.alloc ?_ _ | with_reducible refine Ext.drew ?_ | with_reducible refine Ext.drewN ?_ _ | with_reducible refine Ext.setCell ?_ (by first | exact Nat.le_refl _ | assumption | (simp; done) | omega) _ | with_reducible refine Ext.trans ?_ (by with_reducible assumption))); done)) | fail)
    (first
      | (go_at_call_of 22 (Value.pointer (some ⟨gr, 0, none⟩)); refine (half_ds (HST1.out.to (by ((repeat (first | with_reducible exact Ext.refl _ | with_reducible assumption | with_reducible refine Ext.alloc ?_ _ | with_reducible refine Ext.drew ?_ | with_reducible refine Ext.drewN ?_ _ | with_reducible refine Ext.setCell ?_ (by first | exact Nat.le_refl _ | assumption | (simp; done) | omega) _ | with_reducible refine Ext.trans ?_ (by with_reducible assumption))); done)))).mono ?_; rintro e w6 ⟨rfl, hg6, hst6⟩
         have HST6 := hide hst6
         have d0 := hst6.rv0
         have e0 : w6.cell? ⟨go, 0, none⟩ = some (.slice A1 n1 c1) := hst6.box.cell 0
         have m1 : w6.drew.cell? ⟨go, 0, none⟩ = some (.slice A1 n1 c1) := e0
         have m2 : ∀ o, (w6.alloc o).cell? ⟨go, 0, none⟩ = some (.slice A1 n1 c1) := fun o => ((Ext.refl w6).alloc o).cell e0
         have m3 : ∀ o, (w6.drew.alloc o).cell? ⟨go, 0, none⟩ = some (.slice A1 n1 c1) := fun o => ((Ext.refl w6).drew.alloc o).cell e0
         have m4 : ∀ o, (w6.alloc o).drew.cell? ⟨go, 0, none⟩ = some (.slice A1 n1 c1) := fun o => ((Ext.refl w6).alloc o).drew.cell e0
         clear hg6 hst6)
      | (refine step_append_any _ (by rfl) (.tmp 7) (.tmp 14) 22 (by rfl) w0.heap.size 47 i0 _ 1 4 Tryd.underlying22 hi0 hz0 hz1 hz2 rfl (by omega) (.slice A1 n1 c1) n1 (codeV o.code) (by rfl) (Ext.own (w := w6) (by ((repeat (first | with_reducible exact Ext.refl _ | with_reducible assumption | with_reducible refine Ext.alloc ?_ _ | with_reducible refine Ext.drew ?_ | with_reducible refine Ext.drewN ?_ _ | with_reducible refine Ext.setCell ?_ (by first | exact Nat.le_refl _ | assumption | (simp; done) | omega) _ | with_reducible refine Ext.trans ?_ (by with_reducible assumption))); done)) HST6.out.code) _ _ 1 1 [.int .u32 ((x + 65536 * hv s1 : Nat) : Int)] (by rfl) (by first | exact (Blk.new w6 47 _).rowsF 1 1 rfl | exact (Blk.new w6 47 _).drew.rowsF 1 1 rfl | exact (Blk.new w6.drew 47 _).rowsF 1 1 rfl) (by simp [Value.oneCell']) HL1.out HL2.out (Nat.le_trans HST6.out.ext.size (Ext.size (w := w6) (by ((repeat (first | with_reducible exact Ext.refl _ | with_reducible assumption | with_reducible refine Ext.alloc ?_ _ | with_reducible refine Ext.drew ?_ | with_reducible refine Ext.drewN ?_ _ | with_reducible refine Ext.setCell ?_ (by first | exact Nat.le_refl _ | assumption | (simp; done) | omega) _ | with_reducible refine Ext.trans ?_ (by with_reducible assumption))); done)))) ?_; intro A7 c7 w7 ho7 hg7 ha7
         have HU := hide (ext_atD hg7 (show Ext w6 _ by ((repeat (first | with_reducible exact Ext.refl _ | with_reducible assumption | with_reducible refine Ext.alloc ?_ _ | with_reducible refine Ext.drew ?_ | with_reducible refine Ext.drewN ?_ _ | with_reducible refine Ext.setCell ?_ (by first | exact Nat.le_refl _ | assumption | (simp; done) | omega) _ | with_reducible refine Ext.trans ?_ (by with_reducible assumption))); done)))
         have HSU := hide (HST6.out.to HU.out)
         have hbg := Blk.grown HSU.out.box hg7 (own_blk_ne HSU.out.code HSU.out.box (by decide)).symm
         have hrg := Blk.grown HSU.out.rv hg7 (own_blk_ne HSU.out.code HSU.out.rv (by decide)).symm
         have k9 : w7.cell? ⟨go, 0, none⟩ = some (.slice A1 n1 c1) := hbg.cell 0
         have k8 : w7.frozen? ⟨go, 0, none⟩ = false := hbg.frozen 0
         have k0 : w7.cell? ⟨gv, 0, none⟩ = some (.pointer (some ⟨gr, 0, none⟩)) := hrg.cell 0
         have HGO := hide hrg
         have HGV := hide hbg
         clear hbg hrg)
      | fail)
  all_goals
    have HFIN := hide (DecSt.code_ HSU.out (x := x + 65536 * hv s1) ho7 hg7)
    go_wp2_with fail
    first | ((first | go_end0 | ((try simp only [Exit.inBlock, Exit.then]); refine bodyPost_ret (results_none rfl _ _ _) rfl ?_))) | skip
    exact ⟨rfl, _, HW.out _ _ HFIN.out⟩
end Go.Proofs.YtekijkdgmfdnbaaDoor
