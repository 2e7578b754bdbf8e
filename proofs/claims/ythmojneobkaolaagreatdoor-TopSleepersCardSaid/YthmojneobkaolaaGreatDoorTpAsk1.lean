/- The kernel: who lives; waking one. -/
import Derived.Test.YthmojneobkaolaaGreatDoorTpKer
namespace Go.Proofs.YthmojneobkaolaaGreatDoor
open Go.RowKit
set_option linter.unusedVariables false

section
variable {b : Nat} {w w' : World}
theorem block_n {hr m : Nat} (h : RunN b w hr m) (h0 : 0 < m) (h1 : m ≤ 100) (t : Int) : Calls Tryz.prog 197 #[.pointer (some ⟨hr, 0, none⟩), .int .i64 t] w fun e w' => RetI e ∧ RunN b w' hr m ∧ KeepL b [114, 118] [] [] w w' := by
  obtain ⟨A, cp, tick, stamp, xs, h⟩ := h
  obtain ⟨g, rfl, hm⟩ := h.some h0
  refine (block_any hm h1 t).mono ?_
  rintro e w' ⟨hr, ⟨tk, st, ys, hm'⟩, hk⟩
  exact ⟨hr, ⟨_, _, _, _, _, hm'.any⟩, hk⟩
theorem wake_n {hr m : Nat} (h : RunN b w hr m) (h0 : 0 < m) (h1 : m ≤ 100) (t : Int) : Calls Tryz.prog 46 #[.pointer (some ⟨hr, 0, none⟩), .int .i64 t] w fun e w' => RetI e ∧ RunN b w' hr m ∧ KeepL b [114, 118] [] [] w w' := by
  obtain ⟨A, cp, tick, stamp, xs, h⟩ := h
  obtain ⟨g, rfl, hm⟩ := h.some h0
  refine (wake_any hm h1 t).mono ?_
  rintro e w' ⟨hr, ⟨tk, st, ys, hm'⟩, hk⟩
  exact ⟨hr, ⟨_, _, _, _, _, hm'.any⟩, hk⟩
theorem rtick_n {hr m : Nat} (h : RunN b w hr m) (h0 : 0 < m) (h1 : m ≤ 100) : Calls Tryz.prog 22 #[.pointer (some ⟨hr, 0, none⟩), .int .i64 0] w fun e w' => RetI e ∧ RunN b w' hr m ∧ KeepL b [114, 118] [] [] w w' := by
  obtain ⟨A, cp, tick, stamp, xs, h⟩ := h
  obtain ⟨g, rfl, hm⟩ := h.some h0
  refine (rtick_any hm h1).mono ?_
  rintro e w' ⟨hr, ⟨tk, st, ys, hm'⟩, hk⟩
  exact ⟨hr, ⟨_, _, _, _, _, hm'.any⟩, hk⟩
theorem Arr.extA {g n : Nat} {t : TypeId} {f : Nat → Value} (h : Arr w g t n f) (hx : Ext w w') : Arr w' g t n f := h.ext hx
theorem OpenAt.extA {g : Nat} (h : OpenAt w g) (hx : Ext w w') : OpenAt w' g := by
  obtain ⟨cs, hb, hs, hc⟩ := h
  exact ⟨cs, hb.ext hx, hs, hc⟩
theorem RunN.extA {hr n : Nat} (h : RunN b w hr n) (hx : Ext w w') : RunN b w' hr n := by
  obtain ⟨A, cp, tick, stamp, xs, h⟩ := h
  exact ⟨A, cp, tick, stamp, xs, h.ext hx⟩
variable {H : Hn} {s : KSt}
theorem KAt.ext (h : KAt b w H s) (hx : Ext w w') : KAt b w' H s := by
  obtain ⟨T, hk, h1, hcw, ht⟩ := h.ker
  obtain ⟨m, hm0, hm1, hr⟩ := h.run
  exact ⟨⟨T, hk.ext hx, h1, hx.own hcw, ht⟩, h.proc.extA hx, h.opn.extA hx, h.space.ext hx, ⟨m, hm0, hm1, hr.extA hx⟩, h.wheel.ext hx, h.ge, Nat.le_trans h.bw hx.size⟩
/-- The run has turned. -/
theorem KAt.runned (h : KAt b w H s) {m : Nat} (hk : KeepL b [114, 118] [] [] w w') (h0 : 0 < m) (h1 : m ≤ s.n) (hr : RunN b w' H.hr m) : KAt b w' H s := by
  obtain ⟨T, hk', h1', hcw, ht⟩ := h.ker
  exact ⟨⟨T, hk'.keep hk (by decide) (by simp), h1', hk.own hcw (by decide) (by simp), ht⟩, h.proc.keep hk (by decide) rfl, h.opn.keep hk (by decide) rfl, h.space.keep hk (by decide) (by simp), ⟨m, h0, h1, hr⟩, h.wheel.keep hk (by decide) (by decide) rfl, h.ge, Nat.le_trans h.bw hk.size⟩
/-- The wheel has turned. -/
theorem KAt.wheeled (h : KAt b w H s) {ls : List (Nat × Nat)} (hk : KeepL b [108, tmT] [] [] w w') (hw : WheelAt b w' H.hw s.now ls) : KAt b w' H { s with ls := ls } := by
  obtain ⟨T, hk', h1', hcw, ht⟩ := h.ker
  obtain ⟨m, hm0, hm1, hr⟩ := h.run
  exact ⟨⟨T, hk'.keep hk (by decide) (by simp), h1', hk.own hcw (by decide) (by simp), ht⟩, h.proc.keep hk (by decide) rfl, h.opn.keep hk (by decide) rfl, h.space.keep hk (by decide) (by simp), ⟨m, hm0, hm1, hr.keep hk (by decide) (by decide) rfl⟩, hw, h.ge, Nat.le_trans h.bw hk.size⟩
/-- A task but the first one has turned. -/
theorem KAt.upd (h : KAt b w H s) (p : Nat) (h2 : 2 ≤ p) (pd x : Int) (z : Bool) (hw : ∀ T, KerM w H s.now T → (p ≤ s.n → TaskP (T p) (s.sg p).1 (s.sg p).2 (s.zz p)) → ∃ l, KerM w' H s.now (updN T p l) ∧ (p ≤ s.n → TaskP l pd x z)) (hk : KeepL b [68] [] [] w w') :
    KAt b w' H { s with zz := updN s.zz p z, sg := updN s.sg p (pd, x) } := by
  obtain ⟨T, hk', h1', hcw, ht⟩ := h.ker
  obtain ⟨m, hm0, hm1, hr⟩ := h.run
  obtain ⟨l, hl, hlt⟩ := hw T hk' (fun hp => ht p (by omega) hp)
  refine ⟨⟨_, hl, by rw [updN_other _ _ _ _ (by omega)]; exact h1', hk.own hcw (by decide) (by simp), fun q hq1 hq2 => ?_⟩, h.proc.keep hk (by decide) rfl, h.opn.keep hk (by decide) rfl, h.space.keep hk (by decide) (by simp), ⟨m, hm0, hm1, hr.keep hk (by decide) (by decide) rfl⟩, h.wheel.keep hk (by decide) (by decide) rfl, h.ge, Nat.le_trans h.bw hk.size⟩
  by_cases e : q = p
  · subst e
    simp only [updN_same]
    exact hlt hq2
  · simp only [updN_other _ _ _ _ e]
    exact ht q hq1 hq2
def KSt.slept (s : KSt) (p : Nat) (z : Bool) : KSt := { s with zz := updN s.zz p z }
def KSt.sig (s : KSt) (p : Nat) (q : Int × Int) : KSt := { s with sg := updN s.sg p q }
theorem updN_self {α : Type} (f : Nat → α) (o : Nat) : updN f o (f o) = f := by
  funext x
  unfold updN
  split
  · rename_i h; rw [h]
  · rfl
theorem KAt.sleepSet (h : KAt b w H s) (p : Nat) (h2 : 2 ≤ p) (h16 : p ≤ 16) (z : Bool) : KAt b (w.setCell ⟨H.hk, 8 + p * 38 + 37, none⟩ (.bool z)) H (s.slept p z) ∧ KeepL b [68] [] [] w (w.setCell ⟨H.hk, 8 + p * 38 + 37, none⟩ (.bool z)) := by
  obtain ⟨T, hk', h1', hcw, ht⟩ := h.ker
  have hk := hk'.kset h.ge.1 (8 + p * 38 + 37) (.bool z)
  refine ⟨?_, hk⟩
  have := h.upd p h2 (s.sg p).1 (s.sg p).2 z (fun T hT hp => ⟨_, hT.set p (by omega) 37 (by omega) (.bool z), fun hn => (hp hn).sleep z⟩) hk
  rw [show ((s.sg p).1, (s.sg p).2) = s.sg p from rfl, updN_self] at this
  exact this
theorem KAt.sigSet (h : KAt b w H s) (p : Nat) (h2 : 2 ≤ p) (h16 : p ≤ 16) (pd x : Int) : KAt b (w.setCells H.hk (8 + p * 38 + 19) (sigL pd x)) H (s.sig p (pd, x)) ∧ KeepL b [68] [] [] w (w.setCells H.hk (8 + p * 38 + 19) (sigL pd x)) := by
  obtain ⟨T, hk', h1', hcw, ht⟩ := h.ker
  have hk := hk'.ksets h.ge.1 (8 + p * 38 + 19) (sigL pd x)
  refine ⟨?_, hk⟩
  have := h.upd p h2 pd x (s.zz p) (fun T hT hp => ⟨_, hT.sets p (by omega) 19 (sigL pd x) (by show 19 + 18 ≤ 38; omega), fun hn => (hp hn).sig pd x⟩) hk
  rw [updN_self] at this
  exact this
theorem KAt.hd (h : KAt b w H s) (j : Nat) (hj : j < 8) {v : Value} (hv : (hdV H)[j]? = some v) : w.cell? ⟨H.hk, j, none⟩ = some v := by
  obtain ⟨T, hk', h1', hcw, ht⟩ := h.ker
  exact hk'.hd j hj hv
theorem KAt.clock (h : KAt b w H s) : w.cell? ⟨H.hk, 654, none⟩ = some (.int .u32 (s.now : Int)) := by
  obtain ⟨T, hk', h1', hcw, ht⟩ := h.ker
  exact hk'.clock
theorem KAt.frozen (h : KAt b w H s) (o : Nat) : w.frozen? ⟨H.hk, o, none⟩ = false := by
  obtain ⟨T, hk', h1', hcw, ht⟩ := h.ker
  exact hk'.frozen o
theorem KAt.lt (h : KAt b w H s) : H.hk < w.heap.size := by
  obtain ⟨T, hk', h1', hcw, ht⟩ := h.ker
  exact hk'.lt
theorem KAt.asleep (h : KAt b w H s) (p : Nat) (h1 : 1 ≤ p) (h2 : p ≤ s.n) (hn : s.n ≤ 16) : w.cell? ⟨H.hk, 8 + p * 38 + 37, none⟩ = some (.bool (s.zz p)) := by
  obtain ⟨T, hk', h1', hcw, ht⟩ := h.ker
  exact hk'.cell p (by omega) 37 (ht p h1 h2).zz
theorem KAt.sigR (h : KAt b w H s) (p : Nat) (h1 : 1 ≤ p) (h2 : p ≤ s.n) (hn : s.n ≤ 16) : w.rangeAt H.hk (8 + p * 38 + 19) (sigL (s.sg p).1 (s.sg p).2) := by
  obtain ⟨T, hk', h1', hcw, ht⟩ := h.ker
  refine hk'.range p (by omega) 19 _ fun j v hv => ?_
  have hj := (List.getElem?_eq_some_iff.1 hv).1
  rw [(ht p h1 h2).sg j hj, hv]
theorem KAt.sigT (h : KAt b w H s) (p : Nat) (h16 : p ≤ 16) : w.there H.hk (8 + p * 38 + 19) 18 := by
  obtain ⟨T, hk', h1', hcw, ht⟩ := h.ker
  exact hk'.there p (by omega) 19 18 (by omega)
set_option maxHeartbeats 8000000 in
theorem living_ok (h : KAt b w H s) (p : Nat) (h1 : 1 ≤ p) (h2 : p ≤ s.n) (hn : s.n ≤ 16) :
    Calls Tryz.prog 12 #[pV H.hk, .int .i64 (p : Int)] w fun e w' => e = .returned (.int .i64 0) ∧ w = w' := by
  have HS := hide (state_ok h.proc p h1 h2 hn)
  have c7 := h.hd 7 (by omega) (v := pV H.hp) rfl
  clear h
  go_enter Tryz.func12, Tryz.ntmps12
  go_wp2_with fail
  refine HS.out.mono ?_
  rintro e w' ⟨rfl, rfl⟩
  go_wp2_with fail
  go_ret
  exact ⟨rfl, rfl⟩
set_option maxHeartbeats 8000000 in
theorem kwake_ok (h : KAt b w H s) (p : Nat) (h1 : 2 ≤ p) (h2 : p ≤ s.n) (hn : s.n ≤ 16) :
    Calls Tryz.prog 21 #[pV H.hk, .int .i64 (p : Int)] w fun e w' => e = .returned (.tuple #[]) ∧ KAt b w' H (s.slept p false) ∧ KKeep b H w w' := by
  obtain ⟨hs, hk⟩ := h.sleepSet p h1 (by omega) false
  obtain ⟨m, hm0, hm1, hr⟩ := hs.run
  have HR := hide (wake_n hr hm0 (by have : m ≤ s.n := hm1; omega) (p : Int))
  have HS := hide hs
  have HK := hide hk
  have HM := hide (show m ≤ (s.slept p false).n from hm1)
  have c4 := hs.hd 4 (by omega) (v := pV H.hr) rfl
  have c37 := h.asleep p (by omega) h2 hn
  have f37 := h.frozen (8 + p * 38 + 37)
  have hp17 : (p : Int) < 17 := by omega
  clear h hs hk hr
  go_enter Tryz.func21, Tryz.ntmps21
  go_upto_region 1 with fail
  generalize w.setCell _ _ = W at *
  go_wp2_with fail
  refine HR.out.mono ?_
  rintro e w' ⟨⟨z, rfl⟩, hr', hk'⟩
  have HS2 := hide (HS.out.runned hk' hm0 HM.out hr')
  have HK2 := hide (show KKeep b H w w' from (HK.out.wide (Nat.le_refl _) (by simp) (by simp) (by simp)).trans (hk'.wide (Nat.le_refl _) (by simp) (by simp) (by simp)))
  clear hr' hk' HR HS HK
  go_wp2_with fail
  (first | go_end0 | ((try simp only [Exit.inBlock, Exit.then]); refine bodyPost_ret (results_none rfl _ _ _) rfl ?_))
  exact ⟨rfl, HS2.out, HK2.out⟩
end
end Go.Proofs.YthmojneobkaolaaGreatDoor
