/- The contract of Print's closure: one token more. -/
import Derived.Test.YtjbgkcljjgofnaaDoorShLineW
namespace Go.Proofs.YtjbgkcljjgofnaaDoor
open Go.RowKit
set_option linter.unusedVariables false

/-- Blocks of other kinds are as they were. -/
def Keeps (w w' : World) : Prop := ∀ (b : Nat) (e : TypeId) (cs : Array Value), e ≠ 9 → e ≠ 42 → Blk w b e cs → Blk w' b e cs
theorem Keeps.of {w w' : World} (h : Ext w w') : Keeps w w' := fun b e cs _ _ hb => hb.ext h
theorem Keeps.trans {a b c : World} (h1 : Keeps a b) (h2 : Keeps b c) : Keeps a c := fun x e cs n1 n2 hb => h2 x e cs n1 n2 (h1 x e cs n1 n2 hb)
/-- The texts so far, in the captured variable at g; nothing that was in w0 has changed. -/
def OutAt (w0 : World) (g : Nat) (xs : List (List UInt8)) (w : World) : Prop := w0.heap.size ≤ g ∧ ∃ A c, Blk w g 42 #[.slice A xs.length c] ∧ w.ownsRow w0.heap.size 9 1 (.slice A xs.length c) xs.length (strV xs) ∧ Ext w0 w
section
variable {w0 w w' : World} {g : Nat} {xs : List (List UInt8)}
theorem OutAt.ext (h : OutAt w0 g xs w) (hx : Ext w w') : OutAt w0 g xs w' := by
  obtain ⟨hg, A, c, h1, h2, h3⟩ := h
  exact ⟨hg, A, c, h1.ext hx, hx.own h2, h3.trans hx⟩
theorem OutAt.from_ (h : OutAt w0 g xs w) : Ext w0 w := by
  obtain ⟨hg, A, c, h1, h2, h3⟩ := h
  exact h3
theorem OutAt.lt (h : OutAt w0 g xs w) : g < w.heap.size := by
  obtain ⟨hg, A, c, h1, h2, h3⟩ := h
  exact h1.lt
/-- One text more, written. -/
theorem OutAt.told {A A' : Option Addr} {c c' : Nat} {x : List UInt8} (hg0 : w0.heap.size ≤ g) (hb : Blk w g 42 #[.slice A xs.length c]) (ho : w.ownsRow w0.heap.size 9 1 (.slice A xs.length c) xs.length (strV xs)) (hx : Ext w0 w)
    (ho' : w'.ownsRow w0.heap.size 9 1 (.slice A' (xs.length + 1) c') (xs.length + 1) (strV xs ++ [.string (str x)])) (hg : w.grownBy w' (Value.ownBlock (.slice A xs.length c))) :
    OutAt w0 g (xs ++ [x]) (w'.setCell ⟨g, 0, none⟩ (.slice A' (xs.length + 1) c')) ∧ Keeps w (w'.setCell ⟨g, 0, none⟩ (.slice A' (xs.length + 1) c')) := by
  have n1 : some g ≠ Value.ownBlock (.slice A xs.length c) := Ne.symm (own_blk_ne ho hb (by decide))
  have hbw := hb.grown hg n1
  have n2 : Value.ownBlock (.slice A' (xs.length + 1) c') ≠ some g := own_blk_ne ho' hbw (by decide)
  have hlen : (xs ++ [x]).length = xs.length + 1 := by simp
  refine ⟨⟨hg0, A', c', ?_, ?_, (hx.grown hg (fun k hk => (ho.lt k hk).1)).setCell (p := ⟨g, 0, none⟩) hg0 _⟩, fun b e cs n3 n4 hbb => ?_⟩
  · rw [hlen]
    exact hbw.set_ 0 _
  · rw [hlen, strV_append]
    exact own_far ho' n2 _
  · have n5 : some b ≠ Value.ownBlock (.slice A xs.length c) := Ne.symm (own_blk_ne ho hbb (Ne.symm n3))
    have hne : b ≠ g := by
      intro h
      subst h
      have h2 : w.heap[b]? = some (.cells cs e (0, 0)) := hbb
      have h3 : w.heap[b]? = some (.cells #[.slice A xs.length c] 42 (0, 0)) := hb
      rw [h2] at h3
      injection h3 with h3
      injection h3 with h4 h5
      exact n4 h5
    exact (hbb.grown hg n5).far (p := ⟨g, 0, none⟩) hne _
end
/-- The world is that of the append. -/
theorem ext_at {a b c : World} {r : Option Nat} (hg : b.grownBy c r) (h : Ext a b) : Ext a b := h
def opPr : Op := Op.load 42 (Operand.tmp 1)
theorem opPr_eq : opPr = Op.load 42 (Operand.tmp 1) := rfl
set_option maxHeartbeats 8000000 in
set_option maxRecDepth 100000 in
theorem add_print (t : TokD) (A' : Option Addr) (c' B : Nat) (at_ : Int) (g : Nat) (xs : List (List UInt8)) (w0 w : World) (h : OutAt w0 g xs w) (hr : Reads w B 3 A' t.parts.length (t.parts.flatMap partC)) (hB : B ≤ w.heap.size) (hn : t.parts.length ≤ 1000) (hx : ∀ p ∈ t.parts, p.text.length ≤ 1000) (hm : MaxAt w) (hxs : xs.length ≤ 1000) :
    Calls Tryd.prog 13 #[.agg #[.string (str t.op), .slice A' t.parts.length c', .int .i64 at_], .pointer (some ⟨g, 0, none⟩)] w fun e w' => e = .returned (.tuple #[]) ∧ OutAt w0 g (xs ++ [printTok t]) w' ∧ Keeps w w' := by
  obtain ⟨i0, hi0, hz0, hz1, hz2⟩ := info_parts string_info
  obtain ⟨hg0, A, c, hbx, ho, hxw⟩ := h
  have HPR := hide (fun (W : World) (hw : Ext w W) => print_any t A' c' B W (hw.reads hr hB) (Nat.le_trans hB hw.size) hn hx (hm.ext hw) at_)
  have HG0 := hide hg0
  have HBX := hide hbx
  have HO := hide ho
  have HXW := hide hxw
  have hgl := hbx.lt
  generalize t.parts.length = np at *
  generalize printTok t = pt at *
  generalize str t.op = op at *
  clear hr hx hm hbx ho hxw hg0
  go_enter Tryd.func13, Tryd.ntmps13
  go_upto_region 1 with fail
  rw [← opPr_eq]
  have hOp := opPr_eq
  obtain ⟨gt, hgt⟩ : ∃ gt, w.heap.size = gt := ⟨_, rfl⟩
  have hb9 := Blk.new w 47 #[.string op, .slice A' np c', .int .i64 at_]
  have HX1 := hide ((Ext.refl w).alloc (.cells #[.string op, .slice A' np c', .int .i64 at_] 47))
  rw [hgt] at hb9 hgl ⊢
  generalize w.alloc (.cells #[.string op, .slice A' np c', .int .i64 at_] 47) = W at *
  have b0 : W.cell? ⟨gt, 0, none⟩ = some (.string op) := hb9.cell 0
  have b1 : W.cell? ⟨gt, 1, none⟩ = some (.slice A' np c') := hb9.cell 1
  have b2 : W.cell? ⟨gt, 2, none⟩ = some (.int .i64 at_) := hb9.cell 2
  have hbw := HBX.out.ext HX1.out
  have HBW := hide hbw
  have HOW := hide (HX1.out.own HO.out)
  have c0 : W.cell? ⟨g, 0, none⟩ = some (.slice A xs.length c) := hbw.cell 0
  have m0 : W.drew.cell? ⟨g, 0, none⟩ = some (.slice A xs.length c) := c0
  have HW0 := hide (HXW.out.trans HX1.out)
  have hs0 := HW0.out.size
  have hne : g ≠ gt := by omega
  have HB9 := hide hb9
  clear hbw hb9 hgt
  go_region_held3 (fun w' => w'.cell? ⟨gt, 0, none⟩ = some (.string op) ∧ w'.cell? ⟨gt, 1, none⟩ = some (.slice A' np c') ∧ w'.cell? ⟨gt, 2, none⟩ = some (.int .i64 at_))
    (first | exact ⟨k0, k1, k2⟩ | exact ⟨far1 k0 hne _, far1 k1 hne _, far1 k2 hne _⟩ | (refine ⟨Ext.cell (w := w6) ?_ d0, Ext.cell (w := w6) ?_ d1, Ext.cell (w := w6) ?_ d2⟩ <;> ((repeat (first | with_reducible exact Ext.refl _ | with_reducible assumption | with_reducible refine Ext.alloc ?_ _ | with_reducible refine Ext.drew ?_ | with_reducible refine Ext.drewN ?_ _ | with_reducible refine Ext.setCell ?_ (by first | exact Nat.le_refl _ | assumption | (simp; done) | omega) _ | with_reducible refine Ext.trans ?_ (by with_reducible assumption))); done)) | (refine ⟨Ext.cell (w := W) ?_ b0, Ext.cell (w := W) ?_ b1, Ext.cell (w := W) ?_ b2⟩ <;> ((repeat (first | with_reducible exact Ext.refl _ | with_reducible assumption | with_reducible refine Ext.alloc ?_ _ | with_reducible refine Ext.drew ?_ | with_reducible refine Ext.drewN ?_ _ | with_reducible refine Ext.setCell ?_ (by first | exact Nat.le_refl _ | assumption | (simp; done) | omega) _ | with_reducible refine Ext.trans ?_ (by with_reducible assumption))); done)) | fail)
    (first
      | (go_at_call_of 14 (Value.agg #[Value.string op, Value.slice A' np c', Value.int IntKind.i64 at_]); refine (HPR.out _ (HX1.out.trans (by ((repeat (first | with_reducible exact Ext.refl _ | with_reducible assumption | with_reducible refine Ext.alloc ?_ _ | with_reducible refine Ext.drew ?_ | with_reducible refine Ext.drewN ?_ _ | with_reducible refine Ext.setCell ?_ (by first | exact Nat.le_refl _ | assumption | (simp; done) | omega) _ | with_reducible refine Ext.trans ?_ (by with_reducible assumption))); done)))).mono ?_; rintro e w6 ⟨rfl, hx6⟩
         have HX6 := hide (Ext.trans (a := W) (by ((repeat (first | with_reducible exact Ext.refl _ | with_reducible assumption | with_reducible refine Ext.alloc ?_ _ | with_reducible refine Ext.drew ?_ | with_reducible refine Ext.drewN ?_ _ | with_reducible refine Ext.setCell ?_ (by first | exact Nat.le_refl _ | assumption | (simp; done) | omega) _ | with_reducible refine Ext.trans ?_ (by with_reducible assumption))); done)) hx6)
         have d0 := HX6.out.cell b0
         have d1 := HX6.out.cell b1
         have d2 := HX6.out.cell b2
         have e0 := HX6.out.cell c0
         have m1 : w6.drew.cell? ⟨g, 0, none⟩ = some (.slice A xs.length c) := e0
         have m2 : ∀ o, (w6.alloc o).cell? ⟨g, 0, none⟩ = some (.slice A xs.length c) := fun o => ((Ext.refl w6).alloc o).cell e0
         have m3 : ∀ o, (w6.drew.alloc o).cell? ⟨g, 0, none⟩ = some (.slice A xs.length c) := fun o => ((Ext.refl w6).drew.alloc o).cell e0
         have m4 : ∀ o, (w6.alloc o).drew.cell? ⟨g, 0, none⟩ = some (.slice A xs.length c) := fun o => ((Ext.refl w6).alloc o).drew.cell e0
         have hs6 := HX6.out.size)
      | (refine step_append_any _ (by rfl) (.tmp 3) (.tmp 6) 42 (by rfl) w0.heap.size 9 i0 _ 1 16 Tryd.underlying42 hi0 hz0 hz1 hz2 rfl (by omega) (.slice A xs.length c) xs.length (strV xs) (by rfl) (Ext.own (w := w6) (by ((repeat (first | with_reducible exact Ext.refl _ | with_reducible assumption | with_reducible refine Ext.alloc ?_ _ | with_reducible refine Ext.drew ?_ | with_reducible refine Ext.drewN ?_ _ | with_reducible refine Ext.setCell ?_ (by first | exact Nat.le_refl _ | assumption | (simp; done) | omega) _ | with_reducible refine Ext.trans ?_ (by with_reducible assumption))); done)) (HX6.out.own HOW.out)) _ _ 1 1 [.string (str pt)] (by rfl) (by first | exact (Blk.new w6 9 #[.string (str pt)]).rowsF 1 1 rfl | exact (Blk.new w6 9 #[.string (str pt)]).drew.rowsF 1 1 rfl | exact (Blk.new w6.drew 9 #[.string (str pt)]).rowsF 1 1 rfl) (by simp [Value.oneCell']) (by simp only [maxLen]; omega) (by omega) (Nat.le_trans (Nat.le_trans hs0 hs6) (Ext.size (w := w6) (by ((repeat (first | with_reducible exact Ext.refl _ | with_reducible assumption | with_reducible refine Ext.alloc ?_ _ | with_reducible refine Ext.drew ?_ | with_reducible refine Ext.drewN ?_ _ | with_reducible refine Ext.setCell ?_ (by first | exact Nat.le_refl _ | assumption | (simp; done) | omega) _ | with_reducible refine Ext.trans ?_ (by with_reducible assumption))); done)))) ?_; intro A7 c7 w7 ho7 hg7 ha7
         have HU := hide (ext_at hg7 (Ext.trans (a := W) HX6.out (by ((repeat (first | with_reducible exact Ext.refl _ | with_reducible assumption | with_reducible refine Ext.alloc ?_ _ | with_reducible refine Ext.drew ?_ | with_reducible refine Ext.drewN ?_ _ | with_reducible refine Ext.setCell ?_ (by first | exact Nat.le_refl _ | assumption | (simp; done) | omega) _ | with_reducible refine Ext.trans ?_ (by with_reducible assumption))); done))))
         have HBU := hide (HBW.out.ext HU.out)
         have HOU := hide (HU.out.own HOW.out)
         have n1 : some g ≠ Value.ownBlock (.slice A xs.length c) := Ne.symm (own_blk_ne HOU.out HBU.out (by decide))
         have n2 : some gt ≠ Value.ownBlock (.slice A xs.length c) := Ne.symm (own_blk_ne HOU.out (HB9.out.ext HU.out) (by decide))
         have k9 : w7.cell? ⟨g, 0, none⟩ = some (.slice A xs.length c) := (Blk.grown HBU.out hg7 n1).cell 0
         have k8 : w7.frozen? ⟨g, 0, none⟩ = false := (Blk.grown HBU.out hg7 n1).frozen 0
         have k0 : w7.cell? ⟨gt, 0, none⟩ = some (.string op) := (Blk.grown (HB9.out.ext HU.out) hg7 n2).cell 0
         have k1 : w7.cell? ⟨gt, 1, none⟩ = some (.slice A' np c') := (Blk.grown (HB9.out.ext HU.out) hg7 n2).cell 1
         have k2 : w7.cell? ⟨gt, 2, none⟩ = some (.int .i64 at_) := (Blk.grown (HB9.out.ext HU.out) hg7 n2).cell 2)
      | fail)
  all_goals
    have HFIN := hide (OutAt.told HG0.out HBU.out HOU.out (HW0.out.trans HU.out) ho7 hg7)
    have HKP := hide ((Keeps.of (HX1.out.trans HU.out)).trans HFIN.out.2)
    clear ho7 hg7 ha7 k9 k8 k0 k1 k2 n1 n2 m0 m1 m2 m3 m4 c0 b0 b1 b2 d0 d1 d2 e0 hOp
    go_wp2_with fail
    first | ((first | go_end0 | ((try simp only [Exit.inBlock, Exit.then]); refine bodyPost_ret (results_none rfl _ _ _) rfl ?_))) | skip
    exact ⟨rfl, HFIN.out.1, HKP.out⟩
end Go.Proofs.YtjbgkcljjgofnaaDoor
