/- (*End).Out of an end that calls or is called; Write at an end that is gone. -/
import Derived.Test.YtkfpmljlgpobjaaSay
namespace Go.Proofs.Ytkfpmljlgpobjaa
open Go.RowKit
set_option linter.unusedVariables false

theorem seg_info : (Try.prog.info? 49).map (fun i => (i.zero, i.size, i.bytes)) = some (some (.agg #[.int .u32 0, .int .u32 0, .int .i64 0, .int .i64 0, .slice none 0 0]), 5, 48) := by kernel_rfl
theorem Blk.reads5 {w : World} {g : Nat} {t : TypeId} {a b c d e : Value} (h : Blk w g t #[a, b, c, d, e]) : Reads w w.heap.size 5 (some ⟨g, 0, none⟩) 1 [a, b, c, d, e] := by
  refine ⟨by simp, fun _ => ⟨_, rfl, h.lt, fun j u hu => ?_⟩⟩
  rw [add_lit, Nat.zero_add, h.cell]
  simpa using hu
def OneSeg (w : World) (g : Nat) (e : EndD) (f : Int) (vo vi : Value) (r : Ending) (w' : World) : Prop :=
  ∃ A c A' c', r = .returned (.slice A 1 c) ∧ w'.ownsRow w.heap.size 49 5 (.slice A 1 c) 1 [.int .u32 e.nxt, .int .u32 (ackE e), .int .i64 (flE e f), .int .i64 (64 - e.inn.length), .slice A' 0 c'] ∧ EndB w' g (sayE e f 0) vo vi ∧ w.grownBy w' (some g)

set_option maxHeartbeats 4000000 in
set_option maxRecDepth 100000 in
theorem out_says (w : World) (g : Nat) (e : EndD) (vo : Value) (Ai : Option Addr) (ci : Nat) (hb : EndB w g e vo (.slice Ai e.inn.length ci)) (ok : e.Ok) (hst : e.st = 2 ∨ e.st = 3) (hn : e.nxt = e.una) :
    Calls Try.prog 11 #[.pointer (some ⟨g, 0, none⟩)] w (OneSeg w g e 1 vo (.slice Ai e.inn.length ci)) := by
  obtain ⟨i0, hi0, hz0, hz1, hz2⟩ := info_parts seg_info
  have HSAY := hide (fun d => say_any (w.drewN d) g e vo Ai ci 1 none 0 0 0 [] (hb.drewN d) ok (by omega) Reads.none_ (Nat.zero_le _) (by omega) (fun _ => rfl))
  have c0 : w.cell? ⟨g, 0, none⟩ = some (.int .i64 e.st) := hb.cell 0
  have c1 : w.cell? ⟨g, 1, none⟩ = some (.int .u32 e.una) := hb.cell 1
  have c2 : w.cell? ⟨g, 2, none⟩ = some (.int .u32 e.nxt) := hb.cell 2
  have hgw : g < w.heap.size := hb.lt
  rw [hn] at c2
  have tn : (e.una == e.una) = true := by simp
  have HST := hide (show (sayE e 1 0).st = e.st from rfl)
  have HN := hide hn
  clear hb ok hn
  rcases hst with hst | hst
  all_goals
    rw [hst] at c0 HST
    clear hst
    generalize e.una = ua at *
    go_enter Try.func11, Try.ntmps11
    go_upto_region 2 with fail
    go_quiet (fail)
    go_wp2_with fail
    refine (HSAY.out _).mono ?_
    rintro r w1 ⟨A', c', rfl, ho1, he1, hg1⟩
    have HE1 := hide he1
    have HG1 := hide hg1
    have d0 : w1.cell? ⟨g, 0, none⟩ = some (.int .i64 (sayE e 1 0).st) := he1.cell 0
    rw [HST.out] at d0
    have hs1 : w.heap.size ≤ w1.heap.size := hg1.size
    clear ho1 he1 hg1 c0 c1 c2
    have HB := hide (Blk.new w1 49 #[.int .u32 e.nxt, .int .u32 (ackE e), .int .i64 (flE e 1), .int .i64 (64 - e.inn.length), .slice A' 0 c'])
    go_upto_region 4 with (at_builtin; refine wpList_append_any _ rfl (.tmp 29) (.tmp 32) 27 rfl w.heap.size 49 i0 _ 5 48 Try.underlying27 hi0 hz0 hz1 hz2 rfl (by omega) _ 0 [] rfl (World.ownsRow_nil _ _ _ _) _ _ 1 1 [.int .u32 e.nxt, .int .u32 (ackE e), .int .i64 (flE e 1), .int .i64 (64 - e.inn.length), .slice A' 0 c'] rfl HB.out.reads5 (by simp [Value.oneCell']) (by simp [maxLen]) (by omega) (by simp; omega) ?_; intro A4 c4 w4 ho4 hg4 ha4)
    have hx4 : Ext (w1.alloc (.cells #[.int .u32 e.nxt, .int .u32 (ackE e), .int .i64 (flE e 1), .int .i64 (64 - e.inn.length), .slice A' 0 c'] 49)) w4 := (Ext.refl _).grown hg4 (fun k hk => absurd (show (none : Option Nat) = some k from hk) (by simp))
    have hx5 : Ext w1 w4 := ((Ext.refl w1).alloc _).trans hx4
    have d4 : w4.cell? ⟨g, 0, none⟩ = some _ := hx5.cell d0
    have HO4 := hide ho4
    have HX5 := hide hx5
    clear ho4 hg4 ha4 hx4 hx5 d0 HB
    go_wp2_with fail
    go_ret
    refine ⟨A4, c4, A', c', rfl, HO4.out, HE1.out.ext HX5.out, ?_⟩
    exact ⟨HX5.out.os.trans HG1.out.os, HX5.out.tape.trans HG1.out.tape, HX5.out.output.trans HG1.out.output, Nat.le_trans hs1 HX5.out.size, fun k hk hne => (HX5.out.block k (Nat.lt_of_lt_of_le hk hs1)).trans (HG1.out.block k hk hne)⟩

set_option maxHeartbeats 4000000 in
set_option maxRecDepth 100000 in
theorem out_silent (w : World) (g : Nat) (e : EndD) (vo vi : Value) (hb : EndB w g e vo vi) (hst : e.st = 2 ∨ e.st = 3) (hn : e.nxt ≠ e.una) :
    Calls Try.prog 11 #[.pointer (some ⟨g, 0, none⟩)] w fun r w' => r = .returned (.slice none 0 0) ∧ ∃ d, w' = w.drewN d := by
  have c0 : w.cell? ⟨g, 0, none⟩ = some (.int .i64 e.st) := hb.cell 0
  have c1 : w.cell? ⟨g, 1, none⟩ = some (.int .u32 e.una) := hb.cell 1
  have c2 : w.cell? ⟨g, 2, none⟩ = some (.int .u32 e.nxt) := hb.cell 2
  have tn : (e.nxt == e.una) = false := by simpa using hn
  clear hb hn
  rcases hst with hst | hst
  all_goals
    rw [hst] at c0
    clear hst
    generalize e.una = ua at *
    generalize e.nxt = nx at *
    go_enter Try.func11, Try.ntmps11
    go_upto_region 2 with fail
    go_quiet (fail)
    go_wp2_with fail
    go_ret
    exact ⟨rfl, _, rfl⟩
theorem write_gone (w : World) (g : Nat) (e : EndD) (vo vi : Value) (D : Option Addr) (n c : Nat) (hb : EndB w g e vo vi) (hst : e.st = 5) (hn : n ≤ 256) :
    Calls Try.prog 14 #[.pointer (some ⟨g, 0, none⟩), .slice D n c] w fun r w' => r = .returned (.tuple #[.int .i64 0, .int .i64 10]) ∧ w = w' := by
  have c0 : w.cell? ⟨g, 0, none⟩ = some (.int .i64 e.st) := hb.cell 0
  rw [hst] at c0
  clear hb hst
  go_enter Try.func14, Try.ntmps14
  go_wp2_with fail
  go_ret2
  exact ⟨rfl, rfl⟩
end Go.Proofs.Ytkfpmljlgpobjaa
