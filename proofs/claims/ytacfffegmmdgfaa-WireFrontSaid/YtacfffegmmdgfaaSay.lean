/- The contracts of slices.Clone on bytes and of (*End).say. -/
import Derived.Test.YtacfffegmmdgfaaEnd
import Derived.Lib.SliceRun
namespace Go.Proofs.Ytacfffegmmdgfaa
open Go.RowKit
set_option linter.unusedVariables false

theorem byte_info : (Try.prog.info? 5).map (fun i => (i.zero, i.size, i.bytes)) = some (some (.int .u8 0), 1, 1) := by kernel_rfl
theorem bclone_any (A : Option Addr) (n c B : Nat) (xs : List Value) (w : World) (hr : Reads w B 1 A n xs) (h1 : ∀ u ∈ xs, u.oneCell' = true) (hB : B ≤ w.heap.size) (hn : n ≤ 1000000) (hA : A = none → n = 0) :
    Calls Try.prog 38 #[.slice A n c] w fun e w' => ∃ A' c', e = .returned (.slice A' n c') ∧ w'.ownsRow w.heap.size 5 1 (.slice A' n c') n xs ∧ Ext w w' := by
  obtain ⟨i0, hi0, hz0, hz1, hz2⟩ := info_parts byte_info
  have q : ∀ (w : World) (a : Option Addr) (n c n' c' : Nat), (binOp .eql 24 (.slice a n c) (.slice none n' c')).run Try.prog w = .ok (.bool a.isNone) w := fun w a n c n' c' => Lib.run_eql_slice_nil w _ _ a n c n' c' Try.underlying24
  rcases A with _ | ad
  · obtain rfl := hA rfl
    have hx : xs = [] := List.eq_nil_of_length_eq_zero (by simpa using hr.1)
    subst hx
    go_enter Try.func38, Try.ntmps38
    go_wp2
    go_ret
    exact ⟨_, _, rfl, World.ownsRow_nil _ _ _ _, Ext.refl _⟩
  · have hr' := hr.alloc hB (.cells #[] 5)
    have HR := hide hr'
    clear hr hr' hA
    go_enter Try.func38, Try.ntmps38
    go_wp2_with (at_builtin; refine wpList_append_any _ rfl (.tmp 5) (.tmp 6) _ rfl w.heap.size 5 i0 _ 1 1 Try.underlying24 hi0 hz0 hz1 hz2 rfl (by omega) _ 0 [] rfl (World.ownsRow_made w #[] 0 (Nat.le_refl _) (Nat.zero_le _) rfl) B (some ad) n c xs rfl HR.out h1 (by simp only [maxLen]; omega) (by omega) (by simp) ?_; intro A1 c1 w1 hown1 hg1 hat1)
    go_ret
    refine ⟨A1, c1, by simp, by simpa using hown1, ?_⟩
    exact ((Ext.refl w).alloc _).grown hg1 (fun k hk => by injection hk with hk; subst hk; exact Nat.le_refl _)

theorem bcellX {w w1 : World} (hb : Ext w w1) : (∀ b o, b < w.heap.size → w1.cell? ⟨b, o, none⟩ = w.cell? ⟨b, o, none⟩) ∧ (∀ b o, b < w.heap.size → w1.frozen? ⟨b, o, none⟩ = w.frozen? ⟨b, o, none⟩) :=
  ⟨fun b o h => Below.cell hb (p := ⟨b, o, none⟩) h, fun b o h => Below.frozen hb (p := ⟨b, o, none⟩) h⟩
def ackE (e : EndD) : Int := if 3 ≤ e.st then e.rcv else 0
def flE (e : EndD) (f : Int) : Int := if 3 ≤ e.st then f + 2 else f
def nxtE (e : EndD) (f n : Int) : Int := (e.nxt + spanF f n) % 4294967296
def sayE (e : EndD) (f n : Int) : EndD := { e with nxt := nxtE e f n, top := if beforeB e.top (nxtE e f n) = true then nxtE e f n else e.top, due := false }
abbrev segBox (q a f wd : Int) (d : Value) : Array Value := #[.int .u32 q, .int .u32 a, .int .i64 f, .int .i64 wd, d]
def SayCut (w W : World) (g : Nat) (e : EndD) (vo vi : Value) (f : Int) (n : Nat) (ds : List UInt8) (p : Value) (wc : World) : Prop :=
  ∃ (gb : Nat) (A' : Option Addr) (c' : Nat), p = .pointer (some ⟨gb, 0, none⟩) ∧ Blk wc gb 60 (segBox e.nxt 0 f (64 - e.inn.length) (.slice A' n c')) ∧ wc.ownsRow w.heap.size 5 1 (.slice A' n c') n (bytesV ds) ∧ Ext W wc ∧ W.heap.size ≤ gb

/-- The seg's box, the end, the place of the result. -/
structure SayMid (w : World) (g : Nat) (e : EndD) (vo vi : Value) (q a f : Int) (n : Nat) (wd : Int) (ds : List UInt8) (gb : Nat) (A' : Option Addr) (c' : Nat) (wc : World) : Prop where
  box : Blk wc gb 60 (segBox q a f wd (.slice A' n c'))
  own : wc.ownsRow w.heap.size 5 1 (.slice A' n c') n (bytesV ds)
  end_ : EndB wc g e vo vi
  res : Blk wc w.heap.size 60 #[.int .u32 0, .int .u32 0, .int .i64 0, .int .i64 0, .slice none 0 0]
  grown : w.grownBy wc (some g)
theorem grown_of_ext {w w' : World} (h : Ext w w') (r : Option Nat) : w.grownBy w' r := ⟨h.os, h.tape, h.output, h.size, fun k hk _ => h.block k hk⟩
theorem grown_trans' {a b c : World} {row : Option Nat} (h1 : a.grownBy b row) (h2 : b.grownBy c row) : a.grownBy c row :=
  ⟨h2.os.trans h1.os, h2.tape.trans h1.tape, h2.output.trans h1.output, Nat.le_trans h1.size h2.size, fun k hk hne => (h2.block k (Nat.lt_of_lt_of_le hk h1.size) hne).trans (h1.block k hk hne)⟩
theorem grown_new {w w' : World} {r : Option Nat} (h : w.grownBy w' r) {p : Addr} (hp : w.heap.size ≤ p.block) (v : Value) : w.grownBy (w'.setCell p v) r :=
  ⟨h.os, h.tape, h.output, by simpa using h.size, fun k hk hne => (Below.heap_setCell w' p v k (fun e => by omega)).trans (h.block k hk hne)⟩
theorem SayMid.ext {w : World} {g : Nat} {e : EndD} {vo vi : Value} {q a f : Int} {n : Nat} {wd : Int} {ds : List UInt8} {gb : Nat} {A' : Option Addr} {c' : Nat} {wc w' : World} (h : SayMid w g e vo vi q a f n wd ds gb A' c' wc) (hx : Ext wc w') : SayMid w g e vo vi q a f n wd ds gb A' c' w' :=
  ⟨h.box.ext hx, hx.own h.own, h.end_.ext hx, h.res.ext hx, grown_trans' h.grown (grown_of_ext hx _)⟩
theorem span_fl (e : EndD) (f n : Int) (hf : f = 0 ∨ f = 1 ∨ f = 4) : spanF (flE e f) n = spanF f n := by
  unfold flE
  split
  · rcases hf with rfl | rfl | rfl <;> simp [spanF]
  · rfl
def opNxt : Op := Op.load 22 (Operand.tmp 37)
theorem opNxt_eq : opNxt = Op.load 22 (Operand.tmp 37) := rfl

theorem say_results (w : World) (gr : Nat) (q a f wd : Int) (d : Value) (tmps : Array Value) (h6 : tmps.getD 6 undef = .pointer (some ⟨gr, 0, none⟩)) (hb : Blk w gr 60 (segBox q a f wd d)) :
    (results Try.f33 tmps).run Try.prog w = .ok (.agg (segBox q a f wd d)) w := by
  have c0 : w.cell? ⟨gr, 0, none⟩ = some (.int .u32 q) := hb.cell 0
  have c1 : w.cell? ⟨gr, 1, none⟩ = some (.int .u32 a) := hb.cell 1
  have c2 : w.cell? ⟨gr, 2, none⟩ = some (.int .i64 f) := hb.cell 2
  have c3 : w.cell? ⟨gr, 3, none⟩ = some (.int .i64 wd) := hb.cell 3
  have c4 : w.cell? ⟨gr, 4, none⟩ = some d := hb.cell 4
  simp only [Array.getD_eq_getD_getElem?] at h6
  simp [results, Try.results33, go_sem, h6, c0, c1, c2, c3, c4]

set_option maxHeartbeats 4000000 in
set_option maxRecDepth 100000 in
theorem say_any (w : World) (g : Nat) (e : EndD) (vo : Value) (Ai : Option Addr) (ci : Nat) (f : Int) (D : Option Addr) (n c B : Nat) (ds : List UInt8) (hb : EndB w g e vo (.slice Ai e.inn.length ci)) (ok : e.Ok) (hf : f = 0 ∨ f = 1 ∨ f = 4)
    (hd : Reads w B 1 D n (bytesV ds)) (hB : B ≤ w.heap.size) (hn : n ≤ 64) (hD : D = none → n = 0) :
    Calls Try.prog 33 #[.pointer (some ⟨g, 0, none⟩), .int .i64 f, .slice D n c] w fun r w' =>
      ∃ A' c', r = .returned (.agg #[.int .u32 e.nxt, .int .u32 (ackE e), .int .i64 (flE e f), .int .i64 (64 - e.inn.length), .slice A' n c']) ∧ w'.ownsRow w.heap.size 5 1 (.slice A' n c') n (bytesV ds) ∧ EndB w' g (sayE e f n) vo (.slice Ai e.inn.length ci) ∧ w.grownBy w' (some g) := by
  have hgw : g < w.heap.size := hb.lt
  have hi64 := ok.inn
  obtain ⟨s1, s2⟩ := ok.st
  obtain ⟨n1, n2⟩ := ok.nxt
  have HOK := hide ok
  have HD := hide hd
  have HDn := hide hD
  have HB := hide hb
  clear hd hD ok hb
  go_enter Try.func33, Try.ntmps33
  go_upto_region 1 with fail
  have HX0 := hide ((Ext.refl w).alloc (.cells #[.int .u32 0, .int .u32 0, .int .i64 0, .int .i64 0, .slice none 0 0] 60))
  have HBR := hide (Blk.new w 60 #[.int .u32 0, .int .u32 0, .int .i64 0, .int .i64 0, .slice none 0 0])
  have hsW : (w.alloc (.cells #[.int .u32 0, .int .u32 0, .int .i64 0, .int .i64 0, .slice none 0 0] 60)).heap.size = w.heap.size + 1 := by simp
  generalize w.alloc (.cells #[.int .u32 0, .int .u32 0, .int .i64 0, .int .i64 0, .slice none 0 0] 60) = W at *
  have HBW := hide (HB.out.ext HX0.out)
  have HSW := hide hsW
  clear hsW
  have c2 : W.cell? ⟨g, 2, none⟩ = some (.int .u32 e.nxt) := HBW.out.cell 2
  have c7 : W.cell? ⟨g, 7, none⟩ = some (.slice Ai e.inn.length ci) := HBW.out.cell 7
  have C2 := hide c2
  have C7 := hide c7
  go_cut [7] (SayCut w W g e vo (.slice Ai e.inn.length ci) f n ds)
  case first =>
    have hwr : IntKind.i64.wrap (64 - (e.inn.length : Int)) = 64 - (e.inn.length : Int) := by rw [IntKind.wrap_i64]; omega
    obtain ⟨nx, hnx⟩ : ∃ nx, e.nxt = nx := ⟨_, rfl⟩
    obtain ⟨il, hil⟩ : ∃ il, e.inn.length = il := ⟨_, rfl⟩
    rw [hnx] at c2 C2 n1 n2
    rw [hil] at c7 C7 hwr hi64
    have HNX := hide hnx
    have HIL := hide hil
    clear hnx hil
    go_region_held3 (fun w' => w'.cell? ⟨g, 2, none⟩ = some (.int .u32 nx) ∧ w'.cell? ⟨g, 7, none⟩ = some (.slice Ai il ci))
      (first | (refine ⟨?_, ?_⟩ <;> (refine Ext.cell (w := W) ?_ (by assumption); ((repeat (first | with_reducible exact Ext.refl _ | with_reducible assumption | with_reducible refine Ext.alloc ?_ _ | with_reducible refine Ext.drew ?_ | with_reducible refine Ext.drewN ?_ _ | with_reducible refine Ext.setCell ?_ (by first | exact Nat.le_refl _ | assumption | (simp; done) | omega) _ | with_reducible refine Ext.trans ?_ (by with_reducible assumption))); done))) | fail)
      (first | (go_at_call 38; refine (bclone_any D n c B (bytesV ds) _ (Ext.reads (w := w) (Ext.trans HX0.out (by ((repeat (first | with_reducible exact Ext.refl _ | with_reducible assumption | with_reducible refine Ext.alloc ?_ _ | with_reducible refine Ext.drew ?_ | with_reducible refine Ext.drewN ?_ _ | with_reducible refine Ext.setCell ?_ (by first | exact Nat.le_refl _ | assumption | (simp; done) | omega) _ | with_reducible refine Ext.trans ?_ (by with_reducible assumption))); done))) HD.out hB) (bytesV_one _) (Nat.le_trans hB (Ext.size (w := w) (Ext.trans HX0.out (by ((repeat (first | with_reducible exact Ext.refl _ | with_reducible assumption | with_reducible refine Ext.alloc ?_ _ | with_reducible refine Ext.drew ?_ | with_reducible refine Ext.drewN ?_ _ | with_reducible refine Ext.setCell ?_ (by first | exact Nat.le_refl _ | assumption | (simp; done) | omega) _ | with_reducible refine Ext.trans ?_ (by with_reducible assumption))); done))))) (by omega) HDn.out).mono ?_; rintro e' w1 ⟨A', c', rfl, ho1, hx1⟩; obtain ⟨hcc, hff⟩ := bcellX hx1) | fail)
    · go_wp2_with fail
      go_meet
      have hsz := hx1.size
      simp at hsz
      have hsw := HSW.out
      refine ⟨w1.heap.size, A', c', rfl, ?_, own_mono (ho1.alloc _) (by simp; omega), Ext.alloc (Ext.trans (Ext.drew (Ext.refl W)) hx1) _, by omega⟩
      rw [HNX.out, HIL.out]
      exact Blk.new _ _ _
    · go_wp2_with fail
      go_meet
      have hsz := hx1.size
      simp at hsz
      have hsw := HSW.out
      have hb0 : Blk w1 W.heap.size 60 #[.int .u32 0, .int .u32 0, .int .i64 0, .int .i64 0, .slice none 0 0] := Blk.ext (Blk.drew (Blk.new W 60 _)) hx1
      have hne := own_blk_ne ho1 hb0 (by decide)
      refine ⟨W.heap.size, A', c', rfl, ?_, own_mono (own_far (own_far (own_far (own_far (own_far ho1 hne _) hne _) hne _) hne _) hne _) (by simp; omega), ?_, Nat.le_refl _⟩
      · rw [HNX.out, HIL.out]
        exact hb0.five _ _ _ _ _
      · have hx2 : Ext W w1 := Ext.trans (Ext.drew (Ext.alloc (Ext.refl W) _)) hx1
        exact ((((hx2.setCell (Nat.le_refl _) _).setCell (Nat.le_refl _) _).setCell (Nat.le_refl _) _).setCell (Nat.le_refl _) _).setCell (Nat.le_refl _) _
  case rest =>
    obtain ⟨gb, A', c', rfl, hbb, ho, hx, hgb⟩ := hcut
    have hsw := HSW.out
    have HSB := hide hbb
    have HOW := hide ho
    have HXC := hide hx
    have HBC := hide (HBW.out.ext hx)
    have HRC := hide (HBR.out.ext hx)
    have hgr : w.heap.size < gb := by omega
    have hgb' : gb < wc.heap.size := hbb.lt
    clear hbb ho hx c2 c7 C2 C7 HBW HBR
    have HM := hide (show SayMid w g e vo (.slice Ai e.inn.length ci) e.nxt 0 f n (64 - e.inn.length) ds gb A' c' wc from ⟨HSB.out, HOW.out, HBC.out, HRC.out, grown_of_ext (HX0.out.trans HXC.out) _⟩)
    have d0 : wc.cell? ⟨g, 0, none⟩ = some (.int .i64 e.st) := HBC.out.cell 0
    have d5 : wc.cell? ⟨g, 5, none⟩ = some (.int .u32 e.rcv) := HBC.out.cell 5
    have b1 : wc.cell? ⟨gb, 1, none⟩ = some (.int .u32 0) := HSB.out.cell 1
    have b2 : wc.cell? ⟨gb, 2, none⟩ = some (.int .i64 f) := HSB.out.cell 2
    have e1 := HSB.out.frozen 1
    have e2 := HSB.out.frozen 2
    clear HSB HOW HXC HBC HRC HX0
    go_upto_if 26 with fail
    go_cut [] (SayMid w g e vo (.slice Ai e.inn.length ci) e.nxt (ackE e) (flE e f) n (64 - e.inn.length) ds gb A' c')
    case first =>
      by_cases h3 : 3 ≤ e.st
      · have hor : bits .or .i64 f 2 = f + 2 := by rcases hf with rfl | rfl | rfl <;> decide
        have HA := hide (show ackE e = e.rcv by simp [ackE, h3])
        have HF := hide (show flE e f = f + 2 by simp [flE, h3])
        have hne := own_blk_ne HM.out.own HM.out.box (by decide)
        have hng : g ≠ gb := by omega
        go_wp2_with fail
        go_meet
        rw [HA.out, HF.out]
        exact ⟨(HM.out.box.set_ 1 _).set_ 2 _, own_far (own_far HM.out.own hne _) hne _, (HM.out.end_.far hng _).far hng _, (HM.out.res.far (by dsimp only; omega) _).far (by dsimp only; omega) _, grown_new (grown_new HM.out.grown (by dsimp only; omega) _) (by dsimp only; omega) _⟩
      · have HA := hide (show ackE e = 0 by simp [ackE, h3])
        have HF := hide (show flE e f = f by simp [flE, h3])
        go_wp2_with fail
        go_meet
        rw [HA.out, HF.out]
        exact HM.out
    case rest =>
      have HM2 := hide hcut
      clear hcut HM d0 d5 b1 b2 e1 e2
      have hfl : 0 ≤ flE e f ∧ flE e f ≤ 15 := by unfold flE; split <;> omega
      have HSP := hide (fun (W' : World) => span_any W' e.nxt (ackE e) (flE e f) (64 - e.inn.length) A' n c' hfl (by omega))
      have HSF := hide (span_fl e f n hf)
      have hsp : 0 ≤ spanF f n ∧ spanF f n ≤ 66 := by unfold spanF; split <;> split <;> omega
      have HNX := hide (show nxtE e f n = (e.nxt + spanF f n) % 4294967296 from rfl)
      have HSY := hide (show sayE e f n = { e with nxt := nxtE e f n, top := if beforeB e.top (nxtE e f n) = true then nxtE e f n else e.top, due := false } from rfl)
      go_upto_region 4 with fail
      go_cut [] (fun wd => SayMid w g { e with nxt := nxtE e f n } vo (.slice Ai e.inn.length ci) e.nxt (ackE e) (flE e f) n (64 - e.inn.length) ds gb A' c' wd)
      case first =>
        obtain ⟨s1', s2'⟩ := hsp
        rw [HSF.out] at HSP
        have d2 : wc.cell? ⟨g, 2, none⟩ = some (.int .u32 e.nxt) := HM2.out.end_.cell 2
        have f2 := HM2.out.end_.frozen 2
        have b0 : wc.cell? ⟨gb, 0, none⟩ = some (.int .u32 e.nxt) := HM2.out.box.cell 0
        have b1 : wc.cell? ⟨gb, 1, none⟩ = some (.int .u32 (ackE e)) := HM2.out.box.cell 1
        have b2 : wc.cell? ⟨gb, 2, none⟩ = some (.int .i64 (flE e f)) := HM2.out.box.cell 2
        have b3 : wc.cell? ⟨gb, 3, none⟩ = some (.int .i64 (64 - (e.inn.length : Int))) := HM2.out.box.cell 3
        have b4 : wc.cell? ⟨gb, 4, none⟩ = some (.slice A' n c') := HM2.out.box.cell 4
        have hng : g ≠ gb := by omega
        have hgc : g < wc.heap.size := HM2.out.end_.lt
        rw [← opNxt_eq]
        have hOp := opNxt_eq
        obtain ⟨nx, hnx⟩ : ∃ x, e.nxt = x := ⟨_, rfl⟩
        obtain ⟨ak, hak⟩ : ∃ x, ackE e = x := ⟨_, rfl⟩
        obtain ⟨fl, hfe⟩ : ∃ x, flE e f = x := ⟨_, rfl⟩
        obtain ⟨il, hil⟩ : ∃ x, e.inn.length = x := ⟨_, rfl⟩
        obtain ⟨sp, hspe⟩ : ∃ x, spanF f n = x := ⟨_, rfl⟩
        rw [hnx] at d2 b0 HSP n1 n2
        rw [hak] at b1 HSP
        rw [hfe] at b2 HSP
        rw [hil] at b3 HSP
        rw [hspe] at HSP s1' s2'
        have HV := hide (show IntKind.u32.wrap (nx + IntKind.u32.wrap sp) = nxtE e f n by rw [HNX.out, hnx, hspe, IntKind.wrap_u32, IntKind.wrap_u32]; omega)
        clear hnx hak hfe hil hspe
        go_region_held3 (fun w' => w'.cell? ⟨gb, 0, none⟩ = some (.int .u32 nx) ∧ w'.cell? ⟨gb, 1, none⟩ = some (.int .u32 ak) ∧ w'.cell? ⟨gb, 2, none⟩ = some (.int .i64 fl) ∧ w'.cell? ⟨gb, 3, none⟩ = some (.int .i64 (64 - (il : Int))) ∧ w'.cell? ⟨gb, 4, none⟩ = some (.slice A' n c'))
          (first | (refine ⟨?_, ?_, ?_, ?_, ?_⟩ <;> (refine Ext.cell (w := wc) ?_ (by assumption); ((repeat (first | with_reducible exact Ext.refl _ | with_reducible assumption | with_reducible refine Ext.alloc ?_ _ | with_reducible refine Ext.drew ?_ | with_reducible refine Ext.drewN ?_ _ | with_reducible refine Ext.setCell ?_ (by first | exact Nat.le_refl _ | assumption | (simp; done) | omega) _ | with_reducible refine Ext.trans ?_ (by with_reducible assumption))); done))) | (refine ⟨?_, ?_, ?_, ?_, ?_⟩ <;> (refine far1 (Ext.cell (w := wc) (by ((repeat (first | with_reducible exact Ext.refl _ | with_reducible assumption | with_reducible refine Ext.alloc ?_ _ | with_reducible refine Ext.drew ?_ | with_reducible refine Ext.drewN ?_ _ | with_reducible refine Ext.setCell ?_ (by first | exact Nat.le_refl _ | assumption | (simp; done) | omega) _ | with_reducible refine Ext.trans ?_ (by with_reducible assumption))); done)) (by assumption)) (by dsimp only; omega) _)) | fail)
          (first | (go_at_call 42; refine (HSP.out _).mono ?_; rintro e' w1 ⟨rfl, hx1⟩; have y2 : w1.cell? ⟨g, 2, none⟩ = some (.int .u32 nx) := Ext.cell hx1 d2; have z2 : w1.frozen? ⟨g, 2, none⟩ = false := (Ext.frozen hx1 d2).trans f2) | fail)
        all_goals
          go_wp2_with fail
          go_meet
          have hxw : Ext wc w1 := by first | exact Ext.trans (Ext.drew (Ext.refl wc)) hx1 | exact hx1
          have hm := HM2.out.ext hxw
          have hne : Value.ownBlock (.slice A' n c') ≠ some g := own_blk_ne hm.own hm.end_ (by decide)
          rw [HV.out]
          exact ⟨hm.box.far (by dsimp only; omega) _, own_far hm.own hne _, hm.end_.set_ 2 _, hm.res.far (by dsimp only; omega) _, grown_set hm.grown _ _⟩
      case rest =>
        have HM3 := hide hcut
        have hnx : U32 (nxtE e f n) := by rw [HNX.out]; constructor <;> omega
        have HBF := hide (fun d => before_any (wc.drewN d) e.top (nxtE e f n) HOK.out.top hnx)
        clear hcut HM2 HSP HSF HNX
        obtain ⟨nx, hnx'⟩ : ∃ x, nxtE e f n = x := ⟨_, rfl⟩
        have HNXE := hide hnx'
        rw [hnx'] at HBF HM3
        clear hnx hnx'
        have d2 : wc.cell? ⟨g, 2, none⟩ = some (.int .u32 nx) := HM3.out.end_.cell 2
        have d3 : wc.cell? ⟨g, 3, none⟩ = some (.int .u32 e.top) := HM3.out.end_.cell 3
        have d11 : wc.cell? ⟨g, 11, none⟩ = some (.bool e.due) := HM3.out.end_.cell 11
        have f3 := HM3.out.end_.frozen 3
        have f11 := HM3.out.end_.frozen 11
        have b0 : wc.cell? ⟨gb, 0, none⟩ = some (.int .u32 e.nxt) := HM3.out.box.cell 0
        have b1 : wc.cell? ⟨gb, 1, none⟩ = some (.int .u32 (ackE e)) := HM3.out.box.cell 1
        have b2 : wc.cell? ⟨gb, 2, none⟩ = some (.int .i64 (flE e f)) := HM3.out.box.cell 2
        have b3 : wc.cell? ⟨gb, 3, none⟩ = some (.int .i64 (64 - (e.inn.length : Int))) := HM3.out.box.cell 3
        have b4 : wc.cell? ⟨gb, 4, none⟩ = some (.slice A' n c') := HM3.out.box.cell 4
        have r0 : wc.cell? ⟨w.heap.size, 0, none⟩ = some (.int .u32 0) := HM3.out.res.cell 0
        have r1 : wc.cell? ⟨w.heap.size, 1, none⟩ = some (.int .u32 0) := HM3.out.res.cell 1
        have r2 : wc.cell? ⟨w.heap.size, 2, none⟩ = some (.int .i64 0) := HM3.out.res.cell 2
        have r3 : wc.cell? ⟨w.heap.size, 3, none⟩ = some (.int .i64 0) := HM3.out.res.cell 3
        have r4 : wc.cell? ⟨w.heap.size, 4, none⟩ = some (.slice none 0 0) := HM3.out.res.cell 4
        have q0 := HM3.out.res.frozen 0
        have q1 := HM3.out.res.frozen 1
        have q2 := HM3.out.res.frozen 2
        have q3 := HM3.out.res.frozen 3
        have q4 := HM3.out.res.frozen 4
        have g1 : g ≠ gb := by omega
        have g2 : g ≠ w.heap.size := by omega
        have g3 : gb ≠ w.heap.size := by omega
        have hne1 : Value.ownBlock (.slice A' n c') ≠ some g := own_blk_ne HM3.out.own HM3.out.end_ (by decide)
        have hne2 : Value.ownBlock (.slice A' n c') ≠ some w.heap.size := own_blk_ne HM3.out.own HM3.out.res (by decide)
        have HN1 := hide hne1
        have HN2 := hide hne2
        clear hne1 hne2
        cases hbf : beforeB e.top nx with
        | true =>
          rw [hbf] at HBF
          have HSY' := hide (show sayE e f n = { e with nxt := nx, top := nx, due := false } by rw [HSY.out, HNXE.out, hbf]; rfl)
          clear hbf
          go_upto_region 5 with fail
          go_quiet ((go_at_call 43; exact quiet_eq (HBF.out _)))
          go_wp2_with fail
          refine bodyPost_ret (say_results _ w.heap.size e.nxt (ackE e) (flE e f) (64 - e.inn.length) (.slice A' n c') _ rfl (Blk.five (((HM3.out.res.drewN nq).far (p := ⟨g, 3, none⟩) (Ne.symm g2) _).far (p := ⟨g, 11, none⟩) (Ne.symm g2) _) _ _ _ _ _)) rfl ⟨A', c', rfl, ?_, ?_, ?_⟩
          · exact own_far (own_far (own_far (own_far (own_far (own_far (own_far (Ext.own ((Ext.refl wc).drewN nq) HM3.out.own) HN1.out _) HN1.out _) HN2.out _) HN2.out _) HN2.out _) HN2.out _) HN2.out _
          · rw [HSY'.out]
            exact ((((((((HM3.out.end_.drewN nq).set_ 3 _).set_ 11 _).far g2 _).far g2 _).far g2 _).far g2 _).far g2 _)
          · exact grown_new (grown_new (grown_new (grown_new (grown_new (grown_set (grown_set (grown_drewN HM3.out.grown nq) _ _) _ _) (Nat.le_refl _) _) (Nat.le_refl _) _) (Nat.le_refl _) _) (Nat.le_refl _) _) (Nat.le_refl _) _
        | false =>
          rw [hbf] at HBF
          have HSY' := hide (show sayE e f n = { e with nxt := nx, due := false } by rw [HSY.out, HNXE.out, hbf]; rfl)
          clear hbf
          go_upto_region 5 with fail
          go_quiet ((go_at_call 43; exact quiet_eq (HBF.out _)))
          go_wp2_with fail
          refine bodyPost_ret (say_results _ w.heap.size e.nxt (ackE e) (flE e f) (64 - e.inn.length) (.slice A' n c') _ rfl (Blk.five ((HM3.out.res.drewN nq).far (p := ⟨g, 11, none⟩) (Ne.symm g2) _) _ _ _ _ _)) rfl ⟨A', c', rfl, ?_, ?_, ?_⟩
          · exact own_far (own_far (own_far (own_far (own_far (own_far (Ext.own ((Ext.refl wc).drewN nq) HM3.out.own) HN1.out _) HN2.out _) HN2.out _) HN2.out _) HN2.out _) HN2.out _
          · rw [HSY'.out]
            exact (((((((HM3.out.end_.drewN nq).set_ 11 _).far g2 _).far g2 _).far g2 _).far g2 _).far g2 _)
          · exact grown_new (grown_new (grown_new (grown_new (grown_new (grown_set (grown_drewN HM3.out.grown nq) _ _) (Nat.le_refl _) _) (Nat.le_refl _) _) (Nat.le_refl _) _) (Nat.le_refl _) _) (Nat.le_refl _) _
end Go.Proofs.Ytacfffegmmdgfaa
