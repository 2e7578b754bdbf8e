/- An end with what its two rows hold; contracts of Shut, Ended, Read and Write at any end. -/
import Derived.Test.YtacfffegmmdgfaaSay
namespace Go.Proofs.Ytacfffegmmdgfaa
open Go.RowKit
set_option linter.unusedVariables false

theorem own_of_keep {w w' : World} {base size n : Nat} {e : TypeId} {v : Value} {xs : List Value} (ho : w.ownsRow base e size v n xs) (h : ∀ k, v.ownBlock = some k → w'.heap[k]? = w.heap[k]?) : w'.ownsRow base e size v n xs := by
  obtain ⟨h1, h2⟩ := ho
  refine ⟨h1, ?_⟩
  rcases h2 with h2 | ⟨g, cap, cur, hv, hg, hh, r⟩
  · exact .inl h2
  · exact .inr ⟨g, cap, cur, hv, hg, (h g (by rw [hv]; rfl)).trans hh, r⟩
/-- What an end has: its cells, and two rows of its own. -/
structure EndM (w : World) (g : Nat) (e : EndD) (vo vi : Value) : Prop where
  box : EndB w g e vo vi
  out : w.ownsRow 0 5 1 vo e.out.length (bytesV e.out)
  inn : w.ownsRow 0 5 1 vi e.inn.length (bytesV e.inn)
  ne : ∀ k, vo.ownBlock = some k → vi.ownBlock ≠ some k
def foot (g : Nat) (vo vi : Value) (k : Nat) : Prop := k = g ∨ vo.ownBlock = some k ∨ vi.ownBlock = some k
structure KeepF (F : Nat → Prop) (w w' : World) : Prop where
  os : w'.os = w.os
  tape : w'.tape = w.tape
  output : w'.output = w.output
  size : w.heap.size ≤ w'.heap.size
  block : ∀ k, k < w.heap.size → ¬ F k → w'.heap[k]? = w.heap[k]?
/-- What a call at an end leaves: the end, nothing else touched, nothing old taken in. -/
def EndOp (w : World) (g : Nat) (vo vi : Value) (e' : EndD) (w' : World) : Prop :=
  ∃ vo' vi', EndM w' g e' vo' vi' ∧ KeepF (foot g vo vi) w w' ∧ ∀ k, foot g vo' vi' k → foot g vo vi k ∨ w.heap.size ≤ k
section
variable {w w' w1 : World} {F G : Nat → Prop} {g : Nat} {e : EndD} {vo vi : Value}
theorem KeepF.refl (F : Nat → Prop) (w : World) : KeepF F w w := ⟨rfl, rfl, rfl, Nat.le_refl _, fun _ _ _ => rfl⟩
theorem KeepF.mono (h : KeepF F w w') (hF : ∀ k, k < w.heap.size → F k → G k) : KeepF G w w' := ⟨h.os, h.tape, h.output, h.size, fun k hk hn => h.block k hk (fun hf => hn (hF k hk hf))⟩
theorem KeepF.trans (h : KeepF F w w1) (k : KeepF G w1 w') (hG : ∀ x, x < w.heap.size → G x → F x) : KeepF F w w' :=
  ⟨k.os.trans h.os, k.tape.trans h.tape, k.output.trans h.output, Nat.le_trans h.size k.size, fun x hx hn => (k.block x (Nat.lt_of_lt_of_le hx h.size) (fun hg => hn (hG x hx hg))).trans (h.block x hx hn)⟩
theorem KeepF.of_grown (h : w.grownBy w' (some g)) (hF : F g) : KeepF F w w' :=
  ⟨h.os, h.tape, h.output, h.size, fun k hk hn => h.block k hk (fun e => hn (by injection e with e; rw [e]; exact hF))⟩
theorem KeepF.of_ext (h : Ext w w') : KeepF F w w' := ⟨h.os, h.tape, h.output, h.size, fun k hk _ => h.block k hk⟩
theorem KeepF.own (h : KeepF F w w') {base size n : Nat} {t : TypeId} {v : Value} {xs : List Value} (ho : w.ownsRow base t size v n xs) (hF : ∀ k, v.ownBlock = some k → ¬ F k) : w'.ownsRow base t size v n xs :=
  own_of_keep ho (fun k hv => h.block k (ho.lt k hv).2 (hF k hv))
theorem KeepF.blk (h : KeepF F w w') {k : Nat} {t : TypeId} {cs : Array Value} (hb : Blk w k t cs) (hF : ¬ F k) : Blk w' k t cs := (h.block k hb.lt hF).trans hb
theorem EndM.keep (h : EndM w g e vo vi) (hk : KeepF F w w') (hF : ∀ k, foot g vo vi k → ¬ F k) : EndM w' g e vo vi :=
  ⟨hk.blk h.box (hF g (.inl rfl)), hk.own h.out (fun k hv => hF k (.inr (.inl hv))), hk.own h.inn (fun k hv => hF k (.inr (.inr hv))), h.ne⟩
theorem EndM.lt (h : EndM w g e vo vi) {k : Nat} (hf : foot g vo vi k) : k < w.heap.size := by
  rcases hf with rfl | hf | hf
  · exact h.box.lt
  · exact (h.out.lt k hf).2
  · exact (h.inn.lt k hf).2
theorem EndM.ext (h : EndM w g e vo vi) (hx : Ext w w') : EndM w' g e vo vi := h.keep (F := fun _ => False) (.of_ext hx) (fun _ _ h => h)
/-- Only cells of the end itself, and new blocks: the rows stay. -/
theorem EndM.grown {e' : EndD} (h : EndM w g e vo vi) (hg : w.grownBy w' (some g)) (hb : EndB w' g e' vo vi) (ho : e'.out = e.out) (hi : e'.inn = e.inn) : EndM w' g e' vo vi := by
  have hk : KeepF (fun k => k = g) w w' := KeepF.of_grown hg rfl
  have n1 : ∀ k, vo.ownBlock = some k → ¬ k = g := fun k hv e => own_blk_ne h.out h.box (by decide) (by rw [hv, e])
  have n2 : ∀ k, vi.ownBlock = some k → ¬ k = g := fun k hv e => own_blk_ne h.inn h.box (by decide) (by rw [hv, e])
  exact ⟨hb, by rw [ho]; exact hk.own h.out n1, by rw [hi]; exact hk.own h.inn n2, h.ne⟩
theorem EndOp.of_grown {e' : EndD} (h : EndM w g e vo vi) (hg : w.grownBy w' (some g)) (hb : EndB w' g e' vo vi) (ho : e'.out = e.out) (hi : e'.inn = e.inn) : EndOp w g vo vi e' w' :=
  ⟨vo, vi, h.grown hg hb ho hi, KeepF.of_grown hg (.inl rfl), fun _ hk => .inl hk⟩
theorem EndOp.same (h : EndM w g e vo vi) : EndOp w g vo vi e w := ⟨vo, vi, h, KeepF.refl _ _, fun _ hk => .inl hk⟩
theorem EndOp.quiet (h : EndM w g e vo vi) (n : Nat) : EndOp w g vo vi e (w.drewN n) := ⟨vo, vi, h.ext ((Ext.refl w).drewN n), KeepF.of_ext ((Ext.refl w).drewN n), fun _ hk => .inl hk⟩
end

/-- A call that returns v, and turns the end to e'. -/
def EndRet (w : World) (g : Nat) (vo vi : Value) (v : Value) (e' : EndD) (r : Ending) (w' : World) : Prop := r = .returned v ∧ EndOp w g vo vi e' w'

def shutE (e : EndD) : EndD × Int := if begunB e = false ∨ e.shut = true then (e, 8) else ({ e with shut := true }, 0)
theorem shut_any (w : World) (g : Nat) (e : EndD) (vo vi : Value) (hm : EndM w g e vo vi) :
    Calls Try.prog 27 #[.pointer (some ⟨g, 0, none⟩)] w (EndRet w g vo vi (.int .i64 (shutE e).2) (shutE e).1) := by
  have HBG := hide (begun_any w g e vo vi hm.box)
  have c9 : w.cell? ⟨g, 9, none⟩ = some (.bool e.shut) := hm.box.cell 9
  have f9 := hm.box.frozen 9
  have HM := hide hm
  clear hm
  cases hbg : begunB e with
  | false =>
    have HT := hide (show shutE e = (e, 8) by simp [shutE, hbg])
    rw [hbg] at HBG
    rw [HT.out]
    clear hbg
    go_enter Try.func27, Try.ntmps27
    go_wp2_with fail
    refine HBG.out.mono ?_
    rintro r w' ⟨rfl, rfl⟩
    go_wp2_with fail
    go_ret
    exact ⟨rfl, EndOp.same HM.out⟩
  | true =>
    rw [hbg] at HBG
    cases hs : e.shut with
    | true =>
      have HT := hide (show shutE e = (e, 8) by simp [shutE, hs])
      rw [HT.out]
      rw [hs] at c9
      clear hs hbg
      go_enter Try.func27, Try.ntmps27
      go_wp2_with fail
      refine HBG.out.mono ?_
      rintro r w' ⟨rfl, rfl⟩
      go_wp2_with fail
      go_ret
      exact ⟨rfl, EndOp.same HM.out⟩
    | false =>
      have HT := hide (show shutE e = ({ e with shut := true }, 0) by simp [shutE, hs, hbg])
      rw [HT.out]
      rw [hs] at c9
      clear hs hbg
      go_enter Try.func27, Try.ntmps27
      go_wp2_with fail
      refine HBG.out.mono ?_
      rintro r w' ⟨rfl, rfl⟩
      go_wp2_with fail
      go_ret
      exact ⟨rfl, EndOp.of_grown HM.out (grown_set (World.grownBy.refl w _) _ _) (HM.out.box.set_ 9 _) rfl rfl⟩

def endedE (e : EndD) : Bool := e.shut && (e.out.isEmpty && (decide (e.una = (e.first + 1) % 4294967296) && decide (e.st = 4)))
set_option maxHeartbeats 1000000 in
theorem ended_any (w : World) (g : Nat) (e : EndD) (vo vi : Value) (hm : EndM w g e vo vi) (ok : e.Ok) :
    Calls Try.prog 18 #[.pointer (some ⟨g, 0, none⟩)] w fun r w' => r = .returned (.tuple #[.bool e.fin, .bool (endedE e)]) ∧ ∃ d, w' = w.drewN d := by
  obtain ⟨Ao, co, hvo, -⟩ := own_form hm.out
  have c0 : w.cell? ⟨g, 0, none⟩ = some (.int .i64 e.st) := hm.box.cell 0
  have c1 : w.cell? ⟨g, 1, none⟩ = some (.int .u32 e.una) := hm.box.cell 1
  have c4 : w.cell? ⟨g, 4, none⟩ = some (.int .u32 e.first) := hm.box.cell 4
  have c6 : w.cell? ⟨g, 6, none⟩ = some vo := hm.box.cell 6
  have c9 : w.cell? ⟨g, 9, none⟩ = some (.bool e.shut) := hm.box.cell 9
  have c10 : w.cell? ⟨g, 10, none⟩ = some (.bool e.fin) := hm.box.cell 10
  rw [hvo] at c6
  have HT := hide (show endedE e = (e.shut && (e.out.isEmpty && (decide (e.una = (e.first + 1) % 4294967296) && decide (e.st = 4)))) from rfl)
  obtain ⟨f1, f2⟩ := ok.first
  have hlen := ok.out
  clear hm hvo ok
  cases hs : e.shut with
  | false =>
    have HT' := hide (show endedE e = false by rw [HT.out, hs]; rfl)
    rw [HT'.out]
    rw [hs] at c9
    clear hs
    generalize e.fin = fi at *
    go_enter Try.func18, Try.ntmps18
    go_upto_region 1 with fail
    go_quiet (fail)
    go_wp2_with fail
    go_ret2
    exact ⟨rfl, _, rfl⟩
  | true =>
    rw [hs] at c9
    by_cases ho : e.out = []
    · have hl0 : e.out.length = 0 := by rw [ho]; rfl
      rw [hl0] at c6
      by_cases hu : e.una = (e.first + 1) % 4294967296
      · by_cases h4 : e.st = 4
        · have HT' := hide (show endedE e = true by rw [HT.out, hs, ho]; simp [hu, h4])
          rw [HT'.out]
          rw [h4] at c0
          rw [hu] at c1
          have tu : ((e.first + 1) % 4294967296 == (e.first + 1) % 4294967296) = true := by simp
          clear hs ho hl0 hu h4
          generalize e.fin = fi at *
          generalize e.first = fs at *
          go_enter Try.func18, Try.ntmps18
          go_upto_region 1 with fail
          go_quiet (fail)
          go_wp2_with fail
          go_ret2
          exact ⟨rfl, _, rfl⟩
        · have HT' := hide (show endedE e = false by rw [HT.out]; simp [h4])
          rw [HT'.out]
          rw [hu] at c1
          have tu : ((e.first + 1) % 4294967296 == (e.first + 1) % 4294967296) = true := by simp
          have t4 : (e.st == 4) = false := by simpa using h4
          clear hs ho hl0 hu h4
          generalize e.fin = fi at *
          generalize e.first = fs at *
          generalize e.st = s at *
          go_enter Try.func18, Try.ntmps18
          go_upto_region 1 with fail
          go_quiet (fail)
          go_wp2_with fail
          go_ret2
          exact ⟨rfl, _, rfl⟩
      · have HT' := hide (show endedE e = false by rw [HT.out]; simp [hu])
        rw [HT'.out]
        have tu : (e.una == (e.first + 1) % 4294967296) = false := by simpa using hu
        clear hs ho hl0 hu
        generalize e.fin = fi at *
        generalize e.first = fs at *
        generalize e.una = ua at *
        go_enter Try.func18, Try.ntmps18
        go_upto_region 1 with fail
        go_quiet (fail)
        go_wp2_with fail
        go_ret2
        exact ⟨rfl, _, rfl⟩
    · have HT' := hide (show endedE e = false by rw [HT.out]; simp [ho])
      rw [HT'.out]
      have hl0 : (e.out.length == 0) = false := by
        cases h : e.out with
        | nil => exact absurd h ho
        | cons a b => simp
      have hl1 : ((e.out.length : Int) == 0) = false := by
        have : e.out.length ≠ 0 := by simpa using hl0
        simp; exact ho
      clear hs ho
      generalize e.fin = fi at *
      generalize e.out.length = l at *
      go_enter Try.func18, Try.ntmps18
      go_upto_region 1 with fail
      go_quiet (fail)
      go_wp2_with fail
      go_ret2
      exact ⟨rfl, _, rfl⟩
end Go.Proofs.Ytacfffegmmdgfaa
