/- The contract of (*End).Out at any end. -/
import Derived.Test.YtacfffegmmdgfaaOut
namespace Go.Proofs.Ytacfffegmmdgfaa
open Go.RowKit
set_option linter.unusedVariables false

set_option maxHeartbeats 4000000 in
set_option maxRecDepth 100000 in
theorem out_call (w : World) (g : Nat) (e : EndD) (vo : Value) (Ao Ai : Option Addr) (co ci : Nat) (hb : EndB w g e (.slice Ao e.out.length co) (.slice Ai e.inn.length ci)) (ok : e.Ok) (hst : e.st = 2 ∨ e.st = 3) (hn : e.nxt = e.una) :
    Calls Try.prog 23 #[.pointer (some ⟨g, 0, none⟩)] w (OutPost w g e (.slice Ao e.out.length co) (.slice Ai e.inn.length ci)) := by
  obtain ⟨i0, hi0, hz0, hz1, hz2⟩ := info_parts seg_info
  have HV := hide (show outE e = (sayE e 1 0, [segOf e 1 []]) by unfold outE; rw [if_pos ⟨hst, hn⟩])
  have c0 : w.cell? ⟨g, 0, none⟩ = some (.int .i64 e.st) := hb.cell 0
  have c1 : w.cell? ⟨g, 1, none⟩ = some (.int .u32 e.una) := hb.cell 1
  have c2 : w.cell? ⟨g, 2, none⟩ = some (.int .u32 e.nxt) := hb.cell 2
  rw [hn] at c2
  have tn : (e.una == e.una) = true := by simp
  have HB := hide hb
  have HOK1 := hide ok
  have HVI := hide (show Value.slice Ai e.inn.length ci = Value.slice Ai e.inn.length ci from rfl)
  clear hb ok hn
  obtain ⟨vi, hvi⟩ : ∃ x, Value.slice Ai e.inn.length ci = x := ⟨_, rfl⟩
  have HVI' := hide hvi
  have HST := hide hst
  have hsv : (sayE e 1 0).st = e.st := rfl
  have HSV := hide hsv
  clear hvi hsv
  rcases hst with hst | hst
  all_goals
    rw [hst] at c0 HSV
    clear hst
    generalize e.una = ua at c1 c2 tn
    go_enter Try.func23, Try.ntmps23
    go_upto_region 2 with fail
    go_quiet (fail)
    go_upto_region 3 with fail
    have HBV := hide (HB.out.drewN nq)
    have HAT2 := hide (show OutAt w g (.slice Ao e.out.length co) vi e none 0 [] (w.drewN nq) from ⟨SegsAt.nil _ _, by have := HB.out.drewN nq; rw [HVI'.out] at this; exact this, grown_drewN (World.grownBy.refl w _) nq⟩)
    generalize w.drewN nq = W at *
    clear c0 c1 c2
    have hw0 : True := trivial
    go_wp2_with fail
    refine (say_post _ g e (.slice Ao e.out.length co) Ai ci 1 none 0 0 0 [] HBV.out HOK1.out (by omega) Reads.none_ (Nat.zero_le _) (by omega) (fun _ => rfl)).mono ?_
    rintro r w3 ⟨A3, c3, rfl, ho3, hb3, hg3⟩
    rw [HVI'.out] at hb3
    have HO3 := hide ho3
    have HB3 := hide hb3
    have HG3 := hide hg3
    clear ho3 hb3 hg3
    have HL1 := hide (show ([] : List (SegD × Value)).map (·.1) = [] from rfl)
    have HL3 := hide (show ∀ x ∈ ([] : List (SegD × Value)), SegAt W w.heap.size x from fun x hx => by cases hx)
    have HL2 := hide (show W.ownsRow w.heap.size 60 5 (.slice none ([] : List SegD).length 0) ([] : List SegD).length (([] : List (SegD × Value)).flatMap segC) from World.ownsRow_nil _ _ _ _)
    have HNB := hide (Blk.new w3 60 #[.int .u32 (segOf e 1 []).seq, .int .u32 (segOf e 1 []).ack, .int .i64 (segOf e 1 []).fl, .int .i64 (segOf e 1 []).wd, .slice A3 0 c3])
    have hs3 : w.heap.size ≤ w3.heap.size := Nat.le_trans HAT2.out.grown.size HG3.out.size
    go_upto_region 4 with (at_builtin; refine wpList_append_any _ rfl (.tmp 29) (.tmp 32) 57 rfl w.heap.size 60 i0 _ 5 48 Try.underlying57 hi0 hz0 hz1 hz2 rfl (by omega) (.slice none 0 0) 0 [] rfl (World.ownsRow_nil _ _ _ _) _ _ 1 1 (segC (segOf e 1 [], .slice A3 0 c3)) rfl HNB.out.reads5 (by simp [segC, Value.oneCell']) (by simp only [maxLen]; omega) (by omega) (by simp; omega) ?_; intro A4 c4 w4 ho4 hg4 ha4)
    have HNEW := hide (outAt_more HL1.out HL3.out HAT2.out.box HAT2.out.grown HL2.out HO3.out HB3.out HG3.out ho4 hg4)
    clear ho4 hg4 ha4
    have d0 : w4.cell? ⟨g, 0, none⟩ = some (.int .i64 (sayE e 1 0).st) := HNEW.out.box.cell 0
    rw [HSV.out] at d0
    go_wp2_with fail
    go_ret
    refine ⟨A4, c4, by rw [HV.out]; rfl, ?_⟩
    rw [HV.out, HVI'.out]
    exact HNEW.out
set_option maxHeartbeats 4000000 in
set_option maxRecDepth 100000 in
theorem out_mute (w : World) (g : Nat) (e : EndD) (vo vi : Value) (hb : EndB w g e vo vi) (hst : 0 ≤ e.st ∧ e.st ≤ 5) (h4 : e.st ≠ 4) (hn : ¬ ((e.st = 2 ∨ e.st = 3) ∧ e.nxt = e.una)) :
    Calls Try.prog 23 #[.pointer (some ⟨g, 0, none⟩)] w fun r w' => r = .returned (.slice none 0 0) ∧ ∃ d, w' = w.drewN d := by
  have c0 : w.cell? ⟨g, 0, none⟩ = some (.int .i64 e.st) := hb.cell 0
  have c1 : w.cell? ⟨g, 1, none⟩ = some (.int .u32 e.una) := hb.cell 1
  have c2 : w.cell? ⟨g, 2, none⟩ = some (.int .u32 e.nxt) := hb.cell 2
  clear hb
  by_cases h23 : e.st = 2 ∨ e.st = 3
  · have hn' : ¬ e.nxt = e.una := fun h => hn ⟨h23, h⟩
    have tn : (e.nxt == e.una) = false := by simpa using hn'
    clear hn hn' h4 hst
    generalize e.una = ua at *
    generalize e.nxt = nx at *
    rcases h23 with h | h
    all_goals
      rw [h] at c0
      clear h
      go_enter Try.func23, Try.ntmps23
      go_upto_region 2 with fail
      go_quiet (fail)
      go_wp2_with fail
      go_ret
      exact ⟨rfl, _, rfl⟩
  · have t2 : (e.st == 2) = false := by simp; omega
    have t3 : (e.st == 3) = false := by simp; omega
    have t4 : (e.st == 4) = false := by simp; omega
    have t4' : (e.st != 4) = true := by simp; omega
    clear hn h4 hst h23
    generalize e.st = s at *
    go_enter Try.func23, Try.ntmps23
    go_upto_region 2 with fail
    go_quiet (fail)
    go_wp2_with fail
    go_ret
    exact ⟨rfl, _, rfl⟩
theorem out_any (w : World) (g : Nat) (e : EndD) (vo vi : Value) (hm : EndM w g e vo vi) (ok : e.Ok) :
    Calls Try.prog 23 #[.pointer (some ⟨g, 0, none⟩)] w (OutPost w g e vo vi) := by
  obtain ⟨Ao, co, hvo, -⟩ := own_form hm.out
  obtain ⟨Ai, ci, hvi, -⟩ := own_form hm.inn
  have hb := hm.box
  have ho := hm.out
  rw [hvo, hvi] at hb
  rw [hvo] at ho
  rw [hvo, hvi]
  by_cases h4 : e.st = 4
  · exact out_open w g e vo Ao Ai co ci hb ok h4 ho
  · by_cases hn : (e.st = 2 ∨ e.st = 3) ∧ e.nxt = e.una
    · exact out_call w g e vo Ao Ai co ci hb ok hn.1 hn.2
    · have hV : outE e = (e, []) := by unfold outE; rw [if_neg hn, if_neg h4]
      refine (out_mute w g e _ _ hb ok.st h4 hn).mono ?_
      rintro r w' ⟨rfl, d, rfl⟩
      refine ⟨none, 0, by rw [hV]; rfl, ?_⟩
      rw [hV]
      exact ⟨SegsAt.nil _ _, hb.drewN d, grown_drewN (World.grownBy.refl w _) d⟩
end Go.Proofs.Ytacfffegmmdgfaa
