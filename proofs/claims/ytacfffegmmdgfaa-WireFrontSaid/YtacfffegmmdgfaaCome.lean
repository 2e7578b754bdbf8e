/- Contracts of seg.Check and of (*End).Come at an end that is not open. -/
import Derived.Test.YtacfffegmmdgfaaTake
namespace Go.Proofs.Ytacfffegmmdgfaa
open Go.RowKit
set_option linter.unusedVariables false

theorem check_ok (w : World) (q a f wd : Int) (A : Option Addr) (n c : Nat) (hf : 0 ≤ f ∧ f ≤ 15) (hw : 0 ≤ wd ∧ wd ≤ 255) (hn : n ≤ 32) :
    Calls Try.prog 34 #[.agg #[.int .u32 q, .int .u32 a, .int .i64 f, .int .i64 wd, .slice A n c]] w fun r w' => r = .returned (.int .i64 0) ∧ Ext w w' := by
  obtain ⟨f1, f2⟩ := hf
  obtain ⟨w1, w2⟩ := hw
  go_enter Try.func34, Try.ntmps34
  go_wp2_with fail
  go_ret
  exact ⟨rfl, (Ext.refl w).alloc _⟩
theorem and1 {f : Int} (h : f = 1 ∨ f = 3) : bits BinOp.and IntKind.i64 f 1 = 1 := by rcases h with h | h <;> subst h <;> decide
theorem and10 {f : Int} (h : f = 2 ∨ f = 6) : bits BinOp.and IntKind.i64 f 1 = 0 := by rcases h with h | h <;> subst h <;> decide
theorem and2 {f : Int} (h : f = 2 ∨ f = 3 ∨ f = 6) : bits BinOp.and IntKind.i64 f 2 = 2 := by rcases h with h | h | h <;> subst h <;> decide
theorem and20 {f : Int} (h : f = 1) : bits BinOp.and IntKind.i64 f 2 = 0 := by subst h; decide
theorem and8 {f : Int} (h : f = 1 ∨ f = 2 ∨ f = 3 ∨ f = 6) : bits BinOp.and IntKind.i64 f 8 = 0 := by rcases h with h | h | h | h <;> subst h <;> decide
def meetE (e : EndD) (q wd : Int) : EndD := { e with st := 3, rcv := (q + 1) % 4294967296, peer := wd }
def openE (e : EndD) (q wd : Int) : EndD := { e with st := 4, rcv := (q + 1) % 4294967296, peer := wd, due := true, una := e.first, nxt := e.first, top := e.first, wait := 0, tries := 0 }
def heardE (e : EndD) (wd : Int) : EndD := { e with st := 4, peer := wd, una := e.first, nxt := e.first, wait := 0, tries := 0 }
/-- A segment comes to an end. -/
def comeE (e : EndD) (q a f wd : Int) (ds : List UInt8) : EndD :=
  if e.st = 0 ∨ e.st = 5 then e
  else if f = 8 then (if e.st = 1 then e else { e with st := 5 })
  else if e.st = 1 then (if f = 1 then meetE e q wd else e)
  else if e.st = 2 then (if f = 3 ∧ a = e.first ∧ e.top = e.first then openE e q wd else e)
  else if e.st = 3 then
    (if f % 2 = 1 then (if (q + 1) % 4294967296 = e.rcv then { e with nxt := e.una } else e)
     else if a = e.first ∧ e.top = e.first then takeE (heardE e wd) q f ds else e)
  else if f % 2 = 1 then takeE e q f ds
  else takeE (answerE e a wd) q f ds
def comeN (e : EndD) : Int := if e.st = 0 ∨ e.st = 5 then 8 else 0
def ComeCut (w : World) (g : Nat) (e : EndD) (vo vi : Value) (gb : Nat) (bx : Array Value) (wc : World) : Prop := EndB wc g e vo vi ∧ w.grownBy wc (some g) ∧ Blk wc gb 60 bx

set_option maxHeartbeats 2000000 in
set_option maxRecDepth 100000 in
theorem come_closed (w : World) (g : Nat) (e : EndD) (vo vi : Value) (q a f wd : Int) (A : Option Addr) (n c : Nat) (hm : EndM w g e vo vi) (hst : e.st = 0 ∨ e.st = 5) (hfr : 0 ≤ f ∧ f ≤ 15) (hw : 0 ≤ wd ∧ wd ≤ 255) (hn : n ≤ 32) :
    Calls Try.prog 29 #[.pointer (some ⟨g, 0, none⟩), segV q a f wd (.slice A n c)] w (EndRet w g vo vi (.int .i64 8) e) := by
  have HW := hide hw
  have HM := hide hm
  have hgl : g < w.heap.size := hm.box.lt
  clear hw hm
  rcases hst with hst | hst
  all_goals
    have HST := hide hst
    clear hst
    go_enter Try.func29, Try.ntmps29
    go_wp2_with fail
    refine (check_ok _ q a f wd A n c hfr HW.out hn).mono ?_
    rintro e' w1 ⟨rfl, hx1⟩
    have HX1 := hide (((Ext.refl w).alloc (.cells #[.int .u32 q, .int .u32 a, .int .i64 f, .int .i64 wd, .slice A n c] 60)).trans hx1)
    have HM1 := hide (HM.out.ext HX1.out)
    have c0 : w1.cell? ⟨g, 0, none⟩ = some (.int .i64 e.st) := HM1.out.box.cell 0
    rw [HST.out] at c0
    clear hx1
    go_wp2_with fail
    go_ret
    exact ⟨rfl, EndOp.via (KeepF.of_ext HX1.out) (EndOp.same HM1.out)⟩

set_option maxHeartbeats 2000000 in
set_option maxRecDepth 100000 in
/-- A listening end. -/
theorem come_1 (w : World) (g : Nat) (e : EndD) (vo vi : Value) (q a f wd : Int) (A : Option Addr) (n c : Nat) (hm : EndM w g e vo vi) (hst : e.st = 1) (hq : U32 q) (hf : f = 1) (hw : 0 ≤ wd ∧ wd ≤ 255) (hn : n ≤ 32) :
    Calls Try.prog 29 #[.pointer (some ⟨g, 0, none⟩), segV q a f wd (.slice A n c)] w (EndRet w g vo vi (.int .i64 0) (meetE e q wd)) := by
  have hfr : 0 ≤ f ∧ f ≤ 15 := by omega
  have k1 : bits BinOp.and IntKind.i64 f 1 = 1 := by subst hf; decide
  have k2 : bits BinOp.and IntKind.i64 f 2 = 0 := by subst hf; decide
  have k8 : bits BinOp.and IntKind.i64 f 8 = 0 := by subst hf; decide
  obtain ⟨q1, q2⟩ := hq
  clear hf
  have HW := hide hw
  have hgl : g < w.heap.size := hm.box.lt
  have HM := hide hm
  have HSTE := hide hst
  go_enter Try.func29, Try.ntmps29
  clear hm hw hst
  go_wp2_with fail
  refine (check_ok _ q a f wd A n c hfr HW.out hn).mono ?_
  rintro e' w1 ⟨rfl, hx1⟩
  have HX1 := hide (((Ext.refl w).alloc (.cells #[.int .u32 q, .int .u32 a, .int .i64 f, .int .i64 wd, .slice A n c] 60)).trans hx1)
  have HBX := hide ((Blk.new w 60 #[.int .u32 q, .int .u32 a, .int .i64 f, .int .i64 wd, .slice A n c]).ext hx1)
  have HM1 := hide (HM.out.ext HX1.out)
  have hne : w.heap.size ≠ g := by omega
  clear hx1
  obtain ⟨gb, hgb⟩ : ∃ x, w.heap.size = x := ⟨_, rfl⟩
  rw [hgb] at HBX hne hgl ⊢
  have HGB := hide hgb
  clear hgb
  have b2 : w1.cell? ⟨gb, 2, none⟩ = some (.int .i64 f) := HBX.out.cell 2
  have c0 : w1.cell? ⟨g, 0, none⟩ = some (.int .i64 e.st) := HM1.out.box.cell 0
  rw [HSTE.out] at c0
  go_upto_region 6 with fail
  go_quiet (fail)
  have HXQ := hide ((Ext.refl w1).drewN nq)
  have HX2 := hide (HX1.out.trans HXQ.out)
  have HM2 := hide (HM1.out.ext HXQ.out)
  have HBX2 := hide (HBX.out.ext HXQ.out)
  generalize w1.drewN nq = W at *
  clear b2 c0 HX1 HXQ HBX HM1 HM
  have b0 : W.cell? ⟨gb, 0, none⟩ = some (.int .u32 q) := HBX2.out.cell 0
  have b1 : W.cell? ⟨gb, 1, none⟩ = some (.int .u32 a) := HBX2.out.cell 1
  have b2 : W.cell? ⟨gb, 2, none⟩ = some (.int .i64 f) := HBX2.out.cell 2
  have b3 : W.cell? ⟨gb, 3, none⟩ = some (.int .i64 wd) := HBX2.out.cell 3
  have b4 : W.cell? ⟨gb, 4, none⟩ = some (.slice A n c) := HBX2.out.cell 4
  have c0 : W.cell? ⟨g, 0, none⟩ = some (.int .i64 e.st) := HM2.out.box.cell 0
  rw [HSTE.out] at c0
  have c5 : W.cell? ⟨g, 5, none⟩ = some (.int .u32 e.rcv) := HM2.out.box.cell 5
  have c8 : W.cell? ⟨g, 8, none⟩ = some (.int .i64 e.peer) := HM2.out.box.cell 8
  have f0 := HM2.out.box.frozen 0
  have f5 := HM2.out.box.frozen 5
  have f8 := HM2.out.box.frozen 8
  generalize e.rcv = rv at c5
  generalize e.peer = pe at c8
  go_upto_region 11 with fail
  go_region_held3 (fun w' => w'.cell? ⟨gb, 0, none⟩ = some (.int .u32 q) ∧ w'.cell? ⟨gb, 3, none⟩ = some (.int .i64 wd)) (first | (refine ⟨?_, ?_⟩ <;> ((repeat (first | with_reducible assumption | (with_reducible refine far3 ?_) | (with_reducible refine far4 ?_) | (with_reducible refine far2 ?_ (by decide) _) | (with_reducible refine far1 ?_ (by dsimp only; omega) _))); done)) | fail) (fail)
  all_goals
    go_wp2_with fail
    go_ret
    have h1 := EndB.s8 (EndB.s5 (EndB.s0 (HM2.out.box.drewN 1) 3) (IntKind.u32.wrap (q + 1))) wd
    rw [IntKind.wrap_u32] at h1
    exact ⟨rfl, EndOp.via (KeepF.of_ext HX2.out) (EndOp.of_grown HM2.out (grown_set (grown_set (grown_set (grown_drewN (World.grownBy.refl W _) 1) _ _) _ _) _ _) h1 rfl rfl)⟩
end Go.Proofs.Ytacfffegmmdgfaa
