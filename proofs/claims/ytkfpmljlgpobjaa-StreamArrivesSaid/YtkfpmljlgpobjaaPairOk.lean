/- What comes to an end that is as it may be leaves one. Plain laws. -/
import Derived.Test.YtkfpmljlgpobjaaPair
namespace Go.Proofs.Ytkfpmljlgpobjaa
open Go.RowKit
set_option linter.unusedVariables false

theorem spanF_le (f : Int) (n : Nat) : 0 ≤ spanF f n ∧ spanF f n ≤ n + 2 := by unfold spanF; split <;> split <;> omega
theorem take_ok {e : EndD} (ok : e.Ok) (q f : Int) (ds : List UInt8) : (takeE e q f ds).Ok := by
  unfold takeE
  split
  · exact ok
  · split
    · exact ⟨ok.st, ok.una, ok.nxt, ok.top, ok.first, ok.rcv, ok.out, ok.inn, ok.peer, ok.wait, ok.tries⟩
    · rename_i hr
      refine ⟨ok.st, ok.una, ok.nxt, ok.top, ok.first, ⟨Int.emod_nonneg _ (by omega), Int.emod_lt_of_pos _ (by omega)⟩, ok.out, ?_, ok.peer, ok.wait, ok.tries⟩
      show (e.inn ++ ds).length ≤ 64
      rw [List.length_append]
      unfold refuseB at hr
      simp only [Bool.or_eq_true, not_or, decide_eq_true_iff] at hr
      omega
theorem come_ok {e : EndD} (ok : e.Ok) (q a f wd : Int) (ds : List UInt8) (hq : U32 q) (ha : U32 a) (hw : 0 ≤ wd ∧ wd ≤ 255) : (comeE e q a f wd ds).Ok := by
  have hq1 : U32 ((q + 1) % 4294967296) := ⟨Int.emod_nonneg _ (by omega), Int.emod_lt_of_pos _ (by omega)⟩
  unfold comeE
  split
  · exact ok
  split
  · split
    · exact ok
    · exact ⟨⟨by simp, by simp⟩, ok.una, ok.nxt, ok.top, ok.first, ok.rcv, ok.out, ok.inn, ok.peer, ok.wait, ok.tries⟩
  split
  · split
    · exact ⟨⟨by simp [meetE], by simp [meetE]⟩, ok.una, ok.nxt, ok.top, ok.first, hq1, ok.out, ok.inn, hw, ok.wait, ok.tries⟩
    · exact ok
  split
  · split
    · exact ⟨⟨by simp [openE], by simp [openE]⟩, ok.first, ok.first, ok.first, ok.first, hq1, ok.out, ok.inn, hw, by simp [openE], by simp [openE]⟩
    · exact ok
  split
  · split
    · split
      · exact ⟨ok.st, ok.una, ok.una, ok.top, ok.first, ok.rcv, ok.out, ok.inn, ok.peer, ok.wait, ok.tries⟩
      · exact ok
    · split
      · exact take_ok (heard_ok ok wd hw) _ _ _
      · exact ok
  split
  · exact take_ok ok _ _ _
  · exact take_ok (answer_ok ok a wd ha hw) _ _ _
def comeS (e : EndD) (s : SegD) : EndD := comeE e s.seq s.ack s.fl s.wd s.data
theorem comeS_ok {e : EndD} (ok : e.Ok) {s : SegD} (hs : s.Ok) : (comeS e s).Ok := come_ok ok _ _ _ _ _ hs.seq hs.ack (by have := hs.wd; omega)
def comeL (e : EndD) (l : List SegD) : EndD := l.foldl comeS e
theorem comeL_ok {e : EndD} (ok : e.Ok) {l : List SegD} (h : ∀ s ∈ l, s.Ok) : (comeL e l).Ok := by
  induction l generalizing e with
  | nil => exact ok
  | cons s l ih => exact ih (comeS_ok ok (h s (by simp))) (fun x hx => h x (by simp [hx]))
theorem comeL_snoc (e : EndD) (l : List SegD) (s : SegD) : comeL e (l ++ [s]) = comeS (comeL e l) s := by simp [comeL]
def comeI (d : PairD) (i : Nat) : PairD := { d with e := upd d.e i (comeL (d.e i) (d.y i)), y := upd d.y i [] }
def comeP (d : PairD) : PairD := comeI (comeI d 0) 1
/-- A way is laid down: it is nobody's now. -/
theorem PairM.emptied {w0 w : World} {gp : Nat} {L : PairL} {d : PairD} (h : PairM w0 gp L d w) {i : Nat} (hi : i < 2) :
    ∃ L', PairM w0 gp L' { d with y := upd d.y i [] } (w.setCell ⟨gp, 2 + i, none⟩ nilV) ∧ L'.b = L.b ∧ L'.vo = L.vo ∧ L'.vi = L.vi := by
  have hK : KeepF (fun k => k = gp) w (w.setCell ⟨gp, 2 + i, none⟩ nilV) := KeepF.of_grown (grown_set (World.grownBy.refl w _) _ _) rfl
  refine ⟨{ L with vy := upd L.vy i nilV, ls := upd L.ls i [] }, h.boxed hK (fun j hj k hf e => by subst e; exact h.gp_not_foot hj hf) (fun k e => by subst e; exact h.lo.1) ?_ rfl rfl rfl rfl ?_ ?_ ?_ ?_ ?_ ?_, rfl, rfl, rfl⟩
  · have := h.box.set_ (2 + i) nilV
    rcases lt2 hi with rfl | rfl
    · exact this
    · exact this
  · intro j hj
    dsimp only
    by_cases e : j = i
    · subst e; rw [upd_same, upd_same, upd_same]; exact World.ownsRow_nil _ _ _ _
    · rw [upd_other _ _ e, upd_other _ _ e, upd_other _ _ e]
      exact hK.own (h.way j hj) (fun k hv e => by subst e; exact own_blk_ne (h.way j hj) h.box (by decide) hv)
  · intro j hj
    dsimp only
    by_cases e : j = i
    · subst e; rw [upd_same, upd_same]; rfl
    · rw [upd_other _ _ e, upd_other _ _ e]; exact h.segs j hj
  · intro j hj x hx
    dsimp only at hx
    by_cases e : j = i
    · subst e; rw [upd_same] at hx; cases hx
    · rw [upd_other _ _ e] at hx
      exact hK.own (h.data j hj x hx) (fun k hv e => by subst e; exact own_blk_ne (h.data j hj x hx) h.box (by decide) hv)
  · intro j hj s hs
    dsimp only at hs
    by_cases e : j = i
    · subst e; rw [upd_same] at hs; cases hs
    · rw [upd_other _ _ e] at hs; exact h.sok j hj s hs
  · intro k h0 h1
    dsimp only at h0 h1
    rcases lt2 hi with rfl | rfl
    · rw [upd_same] at h0; cases h0
    · rw [upd_same] at h1; cases h1
  · intro j hj x hx k hk m hm
    dsimp only at hx
    by_cases e : j = i
    · subst e; rw [upd_same] at hx; cases hx
    · rw [upd_other _ _ e] at hx; exact h.free j hj x hx k hk m hm
end Go.Proofs.Ytkfpmljlgpobjaa
