/- The plain law WireFront: what was read is the front of what was written, and all of it where the end heard the close. -/
import Derived.Test.YtacfffegmmdgfaaShiftP
namespace Go.Proofs.Ytacfffegmmdgfaa
open Go.RowKit
set_option linter.unusedVariables false

theorem sayE_keeps (e : EndD) (f n : Int) : (sayE e f n).st = e.st ∧ (sayE e f n).inn = e.inn ∧ (sayE e f n).fin = e.fin := ⟨rfl, rfl, rfl⟩
theorem outLoop_keeps : ∀ (k : Nat) (e : EndD), (outLoop k e).1.st = e.st ∧ (outLoop k e).1.inn = e.inn ∧ (outLoop k e).1.fin = e.fin
  | 0, e => ⟨rfl, rfl, rfl⟩
  | k + 1, e => by
    unfold outLoop
    split
    · exact ⟨rfl, rfl, rfl⟩
    · exact outLoop_keeps k (sayE e 0 (outN e))
theorem outE_keeps (e : EndD) : (outE e).1.st = e.st ∧ (outE e).1.inn = e.inn ∧ (outE e).1.fin = e.fin := by
  have hl := outLoop_keeps 64 e
  have hf : ∀ r : EndD × List SegD, (outFin r).1.st = r.1.st ∧ (outFin r).1.inn = r.1.inn ∧ (outFin r).1.fin = r.1.fin := fun r => by
    unfold outFin
    split <;> exact ⟨rfl, rfl, rfl⟩
  have hd : ∀ r : EndD × List SegD, (outDue r).1.st = r.1.st ∧ (outDue r).1.inn = r.1.inn ∧ (outDue r).1.fin = r.1.fin := fun r => by
    unfold outDue
    split <;> exact ⟨rfl, rfl, rfl⟩
  unfold outE
  split
  · exact ⟨rfl, rfl, rfl⟩
  split
  · obtain ⟨a1, a2, a3⟩ := hd (outFin (outLoop 64 e))
    obtain ⟨b1, b2, b3⟩ := hf (outLoop 64 e)
    exact ⟨a1.trans (b1.trans hl.1), a2.trans (b2.trans hl.2.1), a3.trans (b3.trans hl.2.2)⟩
  · exact ⟨rfl, rfl, rfl⟩
/-- An end that heard the close has nothing left to read. -/
def Spent (e : EndD) : Prop := e.fin = true → e.st = 4 → e.inn = []
theorem Spent.of_eq {e e' : EndD} (h : Spent e) (hk : e'.st = e.st ∧ e'.inn = e.inn ∧ e'.fin = e.fin) : Spent e' := fun hf h4 => by
  rw [hk.2.1]
  exact h (hk.2.2 ▸ hf) (hk.1 ▸ h4)
theorem spent_send {d : LineD} {i : Nat} (h : Spent (d.e i)) (hi : i < 2) : Spent ((sendP d).e i) := by
  have one : ∀ (d : LineD) (j : Nat), Spent (d.e i) → Spent ((sendI d j).e i) := fun d j h => by
    show Spent (upd d.e j (outE (d.e j)).1 i)
    by_cases e : i = j
    · subst e
      rw [upd_same]
      exact h.of_eq (outE_keeps _)
    · rw [upd_other _ _ e]
      exact h
  exact one _ 1 (one _ 0 h)
theorem spent_take {d : LineD} {i : Nat} (ok : (d.e i).Ok) : Spent ((takeI d i 256).e i) := by
  unfold takeI
  split
  · rename_i er he
    intro hf h4
    unfold readErr at he
    split at he
    · rename_i h; omega
    split at he
    · rename_i h
      rw [hf] at h
      exact absurd h.2.2 (by decide)
    · cases he
  · intro _ _
    show (upd d.e i (readTo (d.e i) 256) i).inn = []
    rw [upd_same]
    show (d.e i).inn.drop (readN (d.e i) 256) = []
    have := ok.inn
    unfold readN
    rw [List.drop_eq_nil_iff]
    omega
theorem spent_other {d : LineD} (h : Spent (d.e 0)) : Spent ((takeI d 1 256).e 0) := by
  unfold takeI
  split
  · exact h
  · show Spent (upd d.e 1 (readTo (d.e 1) 256) 0)
    rw [upd_other _ _ (by decide)]
    exact h
theorem run_oks (a b : Int) (ha : U32 a) (hb : U32 b) (l : List DeedD) : ∀ i, i < 2 → ((runL a b l).e i).Ok := by
  have h0 : ShT (fun i => if i = 0 then a - a else b - b) (line0 a b) (line0 a b) := by
    refine ⟨⟨fun i hi => ?_, fun _ _ => rfl, fun _ _ => rfl, rfl, fun x hx => by simp [line0] at hx, fun x hx => by simp [line0] at hx, fun i hi => ?_⟩, fun i hi => ?_⟩
    · rcases lt2 hi with rfl | rfl
      · exact shE_begin 2 a a _ (.inr rfl) ha ha
      · exact shE_begin 1 b b _ (.inl rfl) hb hb
    · rcases lt2 hi with rfl | rfl
      · exact begin_okE 2 a ⟨by omega, by omega⟩ ha
      · exact begin_okE 1 b ⟨by omega, by omega⟩ hb
    · rcases lt2 hi with rfl | rfl <;> exact fun _ => by simp [line0, beginE]
  have h1 : ShT (fun i => if i = 0 then a - a else b - b) (sendP (line0 a b)) (sendP (line0 a b)) := by
    refine ⟨h0.s.send, ?_⟩
    show ∀ i, i < 2 → Live (upd (upd (line0 a b).e 0 (outE ((line0 a b).e 0)).1) 1 (outE (upd (line0 a b).e 0 (outE ((line0 a b).e 0)).1 1)).1 i)
    refine upd_live (upd_live h0.live (out_live (h0.live 0 (by omega)))) ?_
    rw [upd_other _ _ (by decide)]
    exact out_live (h0.live 1 (by omega))
  exact (h1.fold l).s.oke
def lastTwo : List DeedD := [⟨2, 0, 256, []⟩, ⟨2, 1, 256, []⟩]
theorem run_snoc (a b : Int) (l : List DeedD) (x : DeedD) : runL a b (l ++ [x]) = stepL (runL a b l) x := by
  unfold runL
  rw [List.foldl_append]
  rfl
theorem step_take (d : LineD) : stepL d ⟨2, 0, 256, []⟩ = sendP (takeI d 0 256) ∧ stepL d ⟨2, 1, 256, []⟩ = sendP (takeI d 1 256) := ⟨rfl, rfl⟩
/-- The law WireFront. -/
theorem front (a b : Int) (ha : U32 a) (hb : U32 b) (l : List DeedD) (hd : ∀ x ∈ l, x.data.length ≤ 50) (hl : l.length ≤ 120) :
    ∀ i, i < 2 → (runL a b (l ++ lastTwo)).g i <+: (runL a b (l ++ lastTwo)).p (1 - i) ∧ (((runL a b (l ++ lastTwo)).e i).fin = true → ((runL a b (l ++ lastTwo)).e i).st = 4 → (runL a b (l ++ lastTwo)).g i = (runL a b (l ++ lastTwo)).p (1 - i)) := by
  have hs := run_safe a b (l ++ lastTwo) (fun x hx => by
    rcases List.mem_append.1 hx with h | h
    · exact hd x h
    · simp only [lastTwo, List.mem_cons, List.not_mem_nil, or_false] at h
      rcases h with rfl | rfl <;> simp) (by simp [lastTwo]; omega)
  have e1 : runL a b (l ++ lastTwo) = stepL (stepL (runL a b l) ⟨2, 0, 256, []⟩) ⟨2, 1, 256, []⟩ := by
    show runL a b (l ++ ([_] ++ [_])) = _
    rw [← List.append_assoc, run_snoc, run_snoc]
  have s0 : Spent ((stepL (runL a b l) ⟨2, 0, 256, []⟩).e 0) := by
    rw [(step_take _).1]
    exact spent_send (spent_take (run_oks a b ha hb l 0 (by omega))) (by omega)
  have o1 : ((stepL (runL a b l) ⟨2, 0, 256, []⟩).e 1).Ok := by
    rw [← run_snoc]
    exact run_oks a b ha hb _ 1 (by omega)
  have sp : ∀ i, i < 2 → Spent ((runL a b (l ++ lastTwo)).e i) := fun i hi => by
    rw [e1, (step_take _).2]
    rcases lt2 hi with rfl | rfl
    · exact spent_send (spent_other s0) (by omega)
    · exact spent_send (spent_take o1) (by omega)
  exact fun i hi => ⟨Safe.prefix hs hi, fun hf h4 => Safe.whole hs hi hf (sp i hi hf h4)⟩
end Go.Proofs.Ytacfffegmmdgfaa
